/- The walks of path.Right and what it calls. -/
import Derived.Test.YtbgkohfifcfofaaDoorProg
import Derived.Test.YtbgkohfifcfofaaDoorBase
set_option linter.unusedVariables false
set_option linter.unusedSimpArgs false
open Go.RowKit
namespace Go.Proofs.YtbgkohfifcfofaaDoor
open Go.Proofs
def okN (n : Int) : Bool := decide (0 ≤ n) && decide (n ≤ 1048576)
def pathRight (p : List Int) : Bool := decide (p.length ≤ 6) && p.all okN
theorem path_number (w : World) (n : Int) : Calls Tryd.prog 33 #[.int .i64 n] w fun e w' => e = .returned (.bool (okN n)) ∧ w = w' := by
  by_cases h1 : 0 ≤ n
  · by_cases h2 : n ≤ 1048576
    · have e : okN n = true := by simp [okN, h1, h2]
      rw [e]
      go_enter Tryd.func33, Tryd.ntmps33
      go_wp2
      go_ret
      simp
    · have e : okN n = false := by simp [okN, h2]
      rw [e]
      go_enter Tryd.func33, Tryd.ntmps33
      go_wp2
      go_ret
      simp
  · have e : okN n = false := by simp [okN, h1]
    rw [e]
    go_enter Tryd.func33, Tryd.ntmps33
    go_wp2
    go_ret
    simp
theorem path_right1 (w : World) (n : Int) : Calls Tryd.prog 32 #[.int .i64 n] w fun e w' => e = .returned (.bool (!okN n)) ∧ w = w' := by
  generalize hq : okN n = q
  replace hq := Lib.hid hq
  go_enter Tryd.func32, Tryd.ntmps32
  go_wp2_with (go_at_call 33; refine (path_number _ _).mono ?_; rintro e w' ⟨rfl, rfl⟩; rw [hq.out])
  go_ret
  simp
/-- The first that is bad, from k on; -1: none. -/
def badAt : Nat → List Int → Int
  | _, [] => -1
  | k, n :: l => if okN n then badAt (k + 1) l else (k : Int)
theorem badAt_all (l : List Int) : ∀ k, decide (0 ≤ badAt k l) = !l.all okN := by
  induction l with
  | nil => intro k; simp [badAt]
  | cons n l ih =>
    intro k
    rw [badAt, List.all_cons]
    by_cases hn : okN n = true
    · rw [if_pos hn, hn, ih]; simp
    · rw [if_neg hn]
      have : okN n = false := by simpa using hn
      rw [this]; simp
set_option maxHeartbeats 400000 in
theorem indexfunc_I (w : World) (F : Nat → Prop) (v : Value) (xs : List Int) (hx : Row encI w F v xs) :
    Calls Tryd.prog 51 #[v, .func (.func 32) #[] #[]] w fun e w' => e = .returned (.int .i64 (badAt 0 xs)) ∧ w = w' := by
  obtain ⟨A, c, rfl, hc1, hc2⟩ := hx.shape
  simp only [maxLen] at hc2
  generalize hres : badAt 0 xs = r
  replace hres := Lib.hid hres
  replace hx := Lib.hid hx
  go_enter Tryd.func51, Tryd.ntmps51
  go_wp2
  go_loop [5, 8] (fun _ i => ∃ k : Nat, k ≤ xs.length ∧ i = .int .i64 k ∧ Hid (badAt 0 xs = badAt k (xs.drop k))) (fun _ i => xs.length - (intOf i).toNat)
  case atStart => exact ⟨0, Nat.zero_le _, rfl, Lib.hid rfl⟩
  case round =>
    obtain ⟨k, hk, rfl, hgo⟩ := hrel
    by_cases hlt : k < xs.length
    · obtain ⟨x, hxk⟩ := get_some_of_lt hlt
      obtain ⟨b, o, rfl, _, hck⟩ := hx.out.at hxk
      have hdx : xs.drop k = x :: xs.drop (k + 1) := by
        rw [List.drop_eq_getElem_cons hlt]; congr 1; rw [List.getElem?_eq_getElem hlt] at hxk; exact Option.some.inj hxk
      simp only [encI] at hck
      replace hxk := Lib.hid hxk
      replace hdx := Lib.hid hdx
      generalize hok : okN x = q
      replace hok := Lib.hid hok
      cases q with
      | true =>
        have hst : badAt 0 xs = badAt (k + 1) (xs.drop (k + 1)) := by rw [hgo.out, hdx.out]; simp only [badAt]; rw [hok.out, if_pos rfl]
        replace hst := Lib.hid hst
        go_wp2_with (go_at_call 32; refine (path_right1 _ _).mono ?_; rintro e w' ⟨rfl, rfl⟩; rw [hok.out])
        go_round
        case rel => exact ⟨k + 1, by omega, by go_num, hst⟩
        case measure => simp [intOf]; omega
      | false =>
        have hst : badAt 0 xs = k := by rw [hgo.out, hdx.out]; simp only [badAt]; rw [hok.out]; simp
        replace hst := Lib.hid hst
        go_wp2_with (go_at_call 32; refine (path_right1 _ _).mono ?_; rintro e w' ⟨rfl, rfl⟩; rw [hok.out])
        go_ret
        exact ⟨by rw [← hres.out, hst.out]; rfl, rfl⟩
    · have hst : badAt 0 xs = -1 := by rw [hgo.out, List.drop_eq_nil_of_le (by omega)]; rfl
      replace hst := Lib.hid hst
      go_wp2
      go_ret
      exact ⟨by rw [← hres.out, hst.out]; rfl, rfl⟩
theorem containsfunc_I (w : World) (F : Nat → Prop) (v : Value) (xs : List Int) (hx : Row encI w F v xs) :
    Calls Tryd.prog 31 #[v, .func (.func 32) #[] #[]] w fun e w' => e = .returned (.bool (!xs.all okN)) ∧ w = w' := by
  have hb := badAt_all xs 0
  generalize hq : badAt 0 xs = q at hb
  replace hq := Lib.hid hq
  generalize hall : xs.all okN = al at hb ⊢
  go_enter Tryd.func31, Tryd.ntmps31
  go_wp2_with (go_at_call 51; refine (indexfunc_I _ _ _ _ hx).mono ?_; rintro e w' ⟨rfl, rfl⟩; rw [hq.out])
  go_ret
  exact ⟨by rw [← hb]; rfl, rfl⟩
theorem path_right (w : World) (F : Nat → Prop) (v : Value) (xs : List Int) (hx : Row encI w F v xs) :
    Calls Tryd.prog 14 #[v] w fun e w' => e = .returned (.bool (pathRight xs)) ∧ w = w' := by
  obtain ⟨A, c, rfl, hc1, hc2⟩ := hx.shape
  simp only [maxLen] at hc2
  by_cases h6 : xs.length ≤ 6
  · have e : pathRight xs = xs.all okN := by simp [pathRight, h6]
    rw [e]
    replace e := Lib.hid e
    generalize hall : xs.all okN = al
    replace hall := Lib.hid hall
    replace hx := Lib.hid hx
    go_enter Tryd.func14, Tryd.ntmps14
    go_wp2_with (go_at_call 31; refine (containsfunc_I _ _ _ _ hx.out).mono ?_; rintro e w' ⟨rfl, rfl⟩; rw [hall.out])
    go_ret
    exact ⟨by simp, rfl⟩
  · have e : pathRight xs = false := by simp [pathRight, h6]
    rw [e]
    replace e := Lib.hid e
    go_enter Tryd.func14, Tryd.ntmps14
    go_wp2
    go_ret
    simp
end Go.Proofs.YtbgkohfifcfofaaDoor
