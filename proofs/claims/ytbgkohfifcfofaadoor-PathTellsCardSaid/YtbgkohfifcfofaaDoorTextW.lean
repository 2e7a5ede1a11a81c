/- The walks of path.Text and regencyref08.Text. -/
import Derived.Test.YtbgkohfifcfofaaDoorNumW
import Derived.Test.YtbgkohfifcfofaaDoorBuildW
import Derived.Test.YtbgkohfifcfofaaDoorClI
import Derived.Lib.SmallJoins
import Derived.Lib.QuietBelow
set_option linter.unusedVariables false
set_option linter.unusedSimpArgs false
set_option maxRecDepth 100000
open Go.RowKit
namespace Go.Proofs.YtbgkohfifcfofaaDoor
open Go.Proofs
def dots : List Int → List UInt8
  | [] => []
  | n :: l => 46 :: (Lib.itoa n ++ dots l)
/-- A path's text. -/
def ptextB (p : List Int) : List UInt8 := (dots p).drop 1
theorem dots_append (l m : List Int) : dots (l ++ m) = dots l ++ dots m := by
  induction l with
  | nil => rfl
  | cons n l ih => simp [dots, ih]
theorem ptextB_snoc {xs : List Int} {k : Nat} {x : Int} (h : xs[k]? = some x) (h0 : 0 < k) : ptextB (xs.take (k + 1)) = ptextB (xs.take k) ++ [46] ++ Lib.itoa x := by
  have hk : k < xs.length := (List.getElem?_eq_some_iff.1 h).1
  unfold ptextB
  rw [take_snoc_get h, dots_append]
  obtain ⟨y, ys, hy⟩ : ∃ y ys, xs.take k = y :: ys := by
    cases hc : xs.take k with
    | nil => have := congrArg List.length hc; rw [List.length_take, List.length_nil] at this; omega
    | cons y ys => exact ⟨y, ys, rfl⟩
  rw [hy]
  simp [dots]
theorem ptextB_one {xs : List Int} {x : Int} (h : xs[0]? = some x) : ptextB (xs.take 1) = Lib.itoa x := by
  have := take_snoc_get h
  rw [Nat.zero_add] at this
  rw [this]
  simp [ptextB, dots]
theorem dots_len (l : List Int) (h : ∀ x ∈ l, I64 x) : (dots l).length ≤ 22 * l.length := by
  induction l with
  | nil => simp [dots]
  | cons n l ih =>
    have h1 := ih (fun x hx => h x (by simp [hx]))
    have h2 := h n (by simp)
    have h3 := Lib.itoa_length_le n h2.1 h2.2
    simp only [dots, List.length_cons, List.length_append]
    omega
theorem ptextB_len (l : List Int) (h : ∀ x ∈ l, I64 x) (k : Nat) : (ptextB (l.take k)).length ≤ 22 * l.length := by
  have h1 := dots_len (l.take k) (fun x hx => h x (List.mem_of_mem_take hx))
  have h2 := List.length_take_le' k l
  unfold ptextB
  rw [List.length_drop]
  omega
def TabW (w : World) : Prop := Lib.TabIs Tryd.prog w "internal/strconv.uint64pow10" .u64 Lib.pow10Tab
theorem TabW.below {w w1 : World} {B : Nat} (h : TabW w) (hb : Below B w w1) (hB : w.heap.size ≤ B) : TabW w1 :=
  Joins.tab_stays (g := 5) (by kernel_rfl) h hb hB
theorem below_grow_drewN (w : World) (k : Nat) (os : Array Obj) : Below w.heap.size w («Sort».grow (w.drewN k) os) :=
  ⟨rfl, rfl, rfl, by simp [«Sort».grow], fun b hb => by simp [«Sort».grow, Array.getElem?_append_left hb]⟩
theorem itoa_call (n : Int) (w : World) (h : I64 n) (ht : TabW w) :
    Calls Tryd.prog 36 #[.int .i64 n] w (RetB (.string ⟨(Lib.itoa n).toArray⟩) w) := by
  refine (Tryd.strconv_Itoa n h.1 h.2 w ht).mono ?_
  rintro e w1 ⟨rfl, k, os, rfl⟩
  exact ⟨rfl, below_grow_drewN w k os⟩
set_option maxHeartbeats 1000000 in
theorem ref8_text (w : World) (F : Nat → Prop) (v : Value) (p : List Int) (hp : Row encI w F v p) (hpl : p.length ≤ 1000) (hi : ∀ x ∈ p, I64 x) :
    Calls Tryd.prog 17 #[v] w fun e w' => e = .returned (.string ⟨(ptextB p).toArray⟩) ∧ w = w' := by
  obtain ⟨A, c, rfl, hc1, hc2⟩ := hp.shape
  simp only [maxLen] at hc2
  have hlen := fun k => ptextB_len p hi k
  generalize hq : ptextB p = q
  replace hq := Lib.hid hq
  go_enter Tryd.func17, Tryd.ntmps17
  go_wp2
  go_loop [3, 8] (fun s i => ∃ k : Nat, k ≤ p.length ∧ i = .int .i64 k ∧ s = .string ⟨(ptextB (p.take k)).toArray⟩) (fun _ i => p.length - (intOf i).toNat)
  case atStart => exact ⟨0, Nat.zero_le _, rfl, rfl⟩
  case round =>
    obtain ⟨k, hk, rfl, rfl⟩ := hrel
    have hlk := hlen k
    by_cases hlt : k < p.length
    · obtain ⟨x, hxk⟩ := get_some_of_lt hlt
      obtain ⟨b, o, rfl, _, hck⟩ := hp.at hxk
      simp only [encI] at hck
      have hix := hi x (List.mem_of_getElem? hxk)
      have hil := Lib.itoa_length_le x hix.1 hix.2
      by_cases h0 : 0 < k
      · have hst := ptextB_snoc hxk h0
        generalize ptextB (p.take k) = s0 at *
        generalize hs1 : ptextB (p.take (k + 1)) = s1 at *
        generalize hit : Lib.itoa x = s2 at *
        have hadd1 := str_add (P := Tryd.prog) s0 [46] (by simp; omega)
        have hadd2 := str_add (P := Tryd.prog) (s0 ++ [46]) s2 (by simp; omega)
        replace hst := Lib.hid hst; replace hxk := Lib.hid hxk; replace hit := Lib.hid hit; replace hs1 := Lib.hid hs1
        go_wp2_with fail
        refine (ref1_Num x _ hix).mono ?_
        rintro e w1 ⟨rfl, rfl⟩
        rw [hit.out]
        go_wp2
        go_round
        case rel => exact ⟨k + 1, by omega, by go_num, by rw [hs1.out, hst.out, List.append_assoc]; rfl⟩
        case measure => simp [intOf]; omega
      · have hk0 : k = 0 := by omega
        have hst := ptextB_one (show p[0]? = some x by rw [← hk0]; exact hxk)
        have hs0 : ptextB (p.take k) = [] := by rw [hk0]; rfl
        rw [hs0]
        generalize hit : Lib.itoa x = s2 at *
        have hadd2 := str_add (P := Tryd.prog) [] s2 (by simp; omega)
        replace hst := Lib.hid hst; replace hxk := Lib.hid hxk; replace hit := Lib.hid hit; replace hs0 := Lib.hid hs0; replace hk0 := Lib.hid hk0
        go_wp2_with fail
        refine (ref1_Num x _ hix).mono ?_
        rintro e w1 ⟨rfl, rfl⟩
        rw [hit.out]
        go_wp2
        go_round
        case rel => exact ⟨k + 1, by omega, by go_num, by rw [hk0.out, hst.out]⟩
        case measure => simp [intOf]; omega
    · have hkn : k = p.length := by omega
      subst hkn
      go_wp2
      go_ret
      refine ⟨?_, rfl⟩
      rw [← hq.out]
      rfl
set_option maxHeartbeats 1000000 in
theorem path_text (w : World) (F : Nat → Prop) (v : Value) (p : List Int) (hp : Row encI w F v p) (hpl : p.length ≤ 1000) (hi : ∀ x ∈ p, I64 x) (ht : TabW w) :
    Calls Tryd.prog 16 #[v] w (RetB (.string ⟨(ptextB p).toArray⟩) w) := by
  have hp := hp.inside
  obtain ⟨A, c, rfl, hc1, hc2⟩ := hp.shape
  simp only [maxLen] at hc2
  have hlen := fun k => ptextB_len p hi k
  generalize hq : ptextB p = q
  replace hq := Lib.hid hq
  have hnew := bld_new w
  replace hnew := Lib.hid hnew
  go_enter Tryd.func16, Tryd.ntmps16
  go_wp2
  go_loopw [8] (fun i wr => ∃ k : Nat, k ≤ p.length ∧ i = .int .i64 k ∧ Below w.heap.size w wr ∧ BAt w.heap.size wr w.heap.size (ptextB (p.take k))) (fun i _ => p.length - (intOf i).toNat)
  case atStart => exact ⟨0, Nat.zero_le _, rfl, (Below.refl _ w).alloc (Nat.le_refl _) _, hnew.out⟩
  case round =>
    obtain ⟨k, hk, rfl, hb, hbt⟩ := hrel
    have hlk := hlen k
    by_cases hlt : k < p.length
    · obtain ⟨x, hxk⟩ := get_some_of_lt hlt
      obtain ⟨b, o, rfl, _, hck⟩ := (hp.below hb).at hxk
      simp only [encI] at hck
      have hix := hi x (List.mem_of_getElem? hxk)
      have hil := Lib.itoa_length_le x hix.1 hix.2
      have hszb := hb.size
      by_cases h0 : 0 < k
      · have hst := ptextB_snoc hxk h0
        generalize ptextB (p.take k) = s0 at *
        generalize hs1 : ptextB (p.take (k + 1)) = s1 at *
        generalize hit : Lib.itoa x = s2 at *
        have htr : TabW wr := ht.below hb (Nat.le_refl _)
        have hl1 : (s0 ++ [46]).length ≤ 100000000000 := by simp; omega
        replace hst := Lib.hid hst; replace hxk := Lib.hid hxk; replace hit := Lib.hid hit; replace hb := Lib.hid hb; replace hs1 := Lib.hid hs1
        go_wp2_with fail
        refine (write_byte _ _ _ _ 46 hbt (by omega)).mono ?_
        rintro e w1 ⟨rfl, hb1, hbt1⟩
        have hb01 := hb.out.trans hb1
        have ht1 : TabW w1 := ht.below hb01 (Nat.le_refl _)
        replace hb01 := Lib.hid hb01; replace hb1 := Lib.hid hb1
        go_wp2_with fail
        refine (itoa_call x _ hix ht1).mono ?_
        rintro e w2 ⟨rfl, hb2⟩
        rw [hit.out]
        have hbt2 := hbt1.below hb2
        replace hb2 := Lib.hid hb2; replace hbt1 := Lib.hid hbt1
        go_wp2_with fail
        refine (write_string _ _ _ _ s2 hbt2 hl1 (by omega)).mono ?_
        rintro e w3 ⟨rfl, hb3, hbt3⟩
        replace hb3 := Lib.hid hb3; replace hbt2 := Lib.hid hbt2
        go_wp2
        go_roundw
        case rel => exact ⟨k + 1, by omega, by go_num, (hb01.out.trans (hb2.out.mono hb01.out.size)).trans hb3.out, by rw [hs1.out, hst.out]; exact hbt3⟩
        case measure => simp [intOf]; omega
      · have hk0 : k = 0 := by omega
        have hst := ptextB_one (show p[0]? = some x by rw [← hk0]; exact hxk)
        have hs0 : ptextB (p.take k) = [] := by rw [hk0]; rfl
        rw [hs0] at hbt
        generalize hit : Lib.itoa x = s2 at *
        have htr : TabW wr := ht.below hb (Nat.le_refl _)
        replace hst := Lib.hid hst; replace hxk := Lib.hid hxk; replace hit := Lib.hid hit; replace hs0 := Lib.hid hs0; replace hk0 := Lib.hid hk0; replace hb := Lib.hid hb
        go_wp2_with fail
        refine (itoa_call x _ hix htr).mono ?_
        rintro e w2 ⟨rfl, hb2⟩
        rw [hit.out]
        have hbt2 := hbt.below hb2
        replace hb2 := Lib.hid hb2; replace hbt := Lib.hid hbt
        go_wp2_with fail
        refine (write_string _ _ _ _ s2 hbt2 (by simp) (by omega)).mono ?_
        rintro e w3 ⟨rfl, hb3, hbt3⟩
        replace hb3 := Lib.hid hb3; replace hbt2 := Lib.hid hbt2
        go_wp2
        go_roundw
        case rel => exact ⟨k + 1, by omega, by go_num, (hb.out.trans (hb2.out.mono hb.out.size)).trans hb3.out, by rw [hk0.out, hst.out]; exact hbt3⟩
        case measure => simp [intOf]; omega
    · have hkn : k = p.length := by omega
      subst hkn
      rw [List.take_of_length_le (Nat.le_refl _)] at hbt
      replace hb := Lib.hid hb
      go_wp2_with fail
      refine (bld_string _ _ _ _ hbt).mono ?_
      rintro e w1 ⟨rfl, hb1⟩
      rw [hq.out]
      go_wp2
      go_ret
      exact ⟨rfl, hb.out.trans hb1⟩
end Go.Proofs.YtbgkohfifcfofaaDoor
