/- The walks of cmp.Compare at int and of slices.Compare at []int. -/
import Derived.Test.YtbgkohfifcfofaaDoorProg
import Derived.Test.YtbgkohfifcfofaaDoorBase
set_option linter.unusedVariables false
set_option linter.unusedSimpArgs false
open Go.RowKit
namespace Go.Proofs.YtbgkohfifcfofaaDoor
open Go.Proofs
def cmpI (a b : Int) : Int := if a < b then -1 else if b < a then 1 else 0
def cmpL : List Int → List Int → Int
  | [], [] => 0
  | [], _ :: _ => -1
  | _ :: _, [] => 1
  | a :: l, b :: m => if cmpI a b ≠ 0 then cmpI a b else cmpL l m
theorem isnan_I (w : World) (n : Int) : Calls Tryd.prog 67 #[.int .i64 n] w fun e w' => e = .returned (.bool false) ∧ w = w' := by
  have h : (n != n) = false := by simp
  go_enter Tryd.func67, Tryd.ntmps67
  go_wp2
  go_ret
  simp
theorem cmp_I (w : World) (a b : Int) : Calls Tryd.prog 55 #[.int .i64 a, .int .i64 b] w fun e w' => e = .returned (.int .i64 (cmpI a b)) ∧ w = w' := by
  by_cases h1 : a < b
  · have e : cmpI a b = -1 := by unfold cmpI; rw [if_pos h1]
    rw [e]
    go_enter Tryd.func55, Tryd.ntmps55
    go_wp2_with (go_at_call 67; refine (isnan_I _ _).mono ?_; rintro e w' ⟨rfl, rfl⟩)
    go_ret
    simp
  · by_cases h2 : b < a
    · have e : cmpI a b = 1 := by unfold cmpI; rw [if_neg h1, if_pos h2]
      rw [e]
      go_enter Tryd.func55, Tryd.ntmps55
      go_wp2_with (go_at_call 67; refine (isnan_I _ _).mono ?_; rintro e w' ⟨rfl, rfl⟩)
      go_ret
      simp
    · have e : cmpI a b = 0 := by unfold cmpI; rw [if_neg h1, if_neg h2]
      rw [e]
      go_enter Tryd.func55, Tryd.ntmps55
      go_wp2_with (go_at_call 67; refine (isnan_I _ _).mono ?_; rintro e w' ⟨rfl, rfl⟩)
      go_ret
      simp
set_option maxRecDepth 100000 in
set_option maxHeartbeats 400000 in
theorem compare_I (w : World) (F G : Nat → Prop) (v u : Value) (xs ys : List Int) (hx : Row encI w F v xs) (hy : Row encI w G u ys) :
    Calls Tryd.prog 44 #[v, u] w fun e w' => e = .returned (.int .i64 (cmpL xs ys)) ∧ w = w' := by
  obtain ⟨A, c, rfl, hc1, hc2⟩ := hx.shape
  obtain ⟨B, d, rfl, hd1, hd2⟩ := hy.shape
  simp only [maxLen] at hc2 hd2
  generalize hres : cmpL xs ys = r
  replace hres := Lib.hid hres
  replace hx := Lib.hid hx
  replace hy := Lib.hid hy
  go_enter Tryd.func44, Tryd.ntmps44
  go_wp2
  go_loop [5, 6, 7, 8, 11] (fun _ _ _ _ i => ∃ k : Nat, k ≤ xs.length ∧ k ≤ ys.length ∧ i = .int .i64 k ∧ Hid (cmpL xs ys = cmpL (xs.drop k) (ys.drop k))) (fun _ _ _ _ i => xs.length - (intOf i).toNat)
  case atStart => exact ⟨0, Nat.zero_le _, Nat.zero_le _, rfl, Lib.hid rfl⟩
  case round =>
    obtain ⟨k, hk, hk2, rfl, hgo⟩ := hrel
    by_cases hlt : k < xs.length
    · obtain ⟨x, hxk⟩ := get_some_of_lt hlt
      obtain ⟨b, o, rfl, _, hck⟩ := hx.out.at hxk
      have hdx : xs.drop k = x :: xs.drop (k + 1) := by
        rw [List.drop_eq_getElem_cons hlt]; congr 1; rw [List.getElem?_eq_getElem hlt] at hxk; exact Option.some.inj hxk
      simp only [encI] at hck
      replace hxk := Lib.hid hxk
      replace hdx := Lib.hid hdx
      by_cases hlt2 : k < ys.length
      · obtain ⟨y, hyk⟩ := get_some_of_lt hlt2
        obtain ⟨b', o', rfl, _, hck'⟩ := hy.out.at hyk
        have hdy : ys.drop k = y :: ys.drop (k + 1) := by
          rw [List.drop_eq_getElem_cons hlt2]; congr 1; rw [List.getElem?_eq_getElem hlt2] at hyk; exact Option.some.inj hyk
        simp only [encI] at hck'
        replace hyk := Lib.hid hyk
        replace hdy := Lib.hid hdy
        generalize hcm : cmpI x y = q
        replace hcm := Lib.hid hcm
        by_cases hq : q = 0
        · have hq1 : (q != 0) = false := by simp [hq]
          have hst : cmpL xs ys = cmpL (xs.drop (k + 1)) (ys.drop (k + 1)) := by
            rw [hgo.out, hdx.out, hdy.out]; simp only [cmpL]; rw [hcm.out, hq]; simp
          replace hst := Lib.hid hst
          replace hq := Lib.hid hq
          go_wp2_with (go_at_call 55; refine (cmp_I _ _ _).mono ?_; rintro e w' ⟨rfl, rfl⟩; rw [hcm.out])
          go_round
          case rel => exact ⟨k + 1, by omega, by omega, by go_num, hst⟩
          case measure => simp [intOf]; omega
        · have hq1 : (q != 0) = true := by simp [hq]
          have hst : cmpL xs ys = q := by
            rw [hgo.out, hdx.out, hdy.out]; simp only [cmpL]; rw [hcm.out, if_pos hq]
          replace hst := Lib.hid hst
          replace hq := Lib.hid hq
          go_wp2_with (go_at_call 55; refine (cmp_I _ _ _).mono ?_; rintro e w' ⟨rfl, rfl⟩; rw [hcm.out])
          go_ret
          exact ⟨by rw [← hres.out, hst.out]; rfl, rfl⟩
      · have hst : cmpL xs ys = 1 := by
          have hn : ys.drop k = [] := List.drop_eq_nil_of_le (by omega)
          rw [hgo.out, hdx.out, hn]; rfl
        replace hst := Lib.hid hst
        go_wp2
        go_ret
        exact ⟨by rw [← hres.out, hst.out]; rfl, rfl⟩
    · by_cases hlt2 : k < ys.length
      · have hst : cmpL xs ys = -1 := by
          have hn : xs.drop k = [] := List.drop_eq_nil_of_le (by omega)
          rw [hgo.out, hn, List.drop_eq_getElem_cons hlt2]; rfl
        replace hst := Lib.hid hst
        go_wp2
        go_ret
        exact ⟨by rw [← hres.out, hst.out]; rfl, rfl⟩
      · have hst : cmpL xs ys = 0 := by
          have hn : xs.drop k = [] := List.drop_eq_nil_of_le (by omega)
          have hm : ys.drop k = [] := List.drop_eq_nil_of_le (by omega)
          rw [hgo.out, hn, hm]; rfl
        replace hst := Lib.hid hst
        go_wp2
        go_ret
        exact ⟨by rw [← hres.out, hst.out]; rfl, rfl⟩
end Go.Proofs.YtbgkohfifcfofaaDoor
