/- The walk of slices.Equal at ints. -/
import Derived.Test.YtbgkohfifcfofaaDoorProg
import Derived.Test.YtbgkohfifcfofaaDoorBase
set_option linter.unusedVariables false
set_option linter.unusedSimpArgs false
open Go.RowKit
namespace Go.Proofs.YtbgkohfifcfofaaDoor
open Go.Proofs
set_option maxHeartbeats 400000 in
theorem equal_I (w : World) (F G : Nat → Prop) (v u : Value) (xs ys : List Int) (hx : Row encI w F v xs) (hy : Row encI w G u ys) :
    Calls Tryd.prog 43 #[v, u] w (RetB (.bool (xs == ys)) w) := by
  obtain ⟨A, c, rfl, hc1, hc2⟩ := hx.shape
  obtain ⟨B, d, rfl, hd1, hd2⟩ := hy.shape
  simp only [maxLen] at hc2 hd2
  by_cases hl : xs.length = ys.length
  · have hb : ((xs.length : Int) != (ys.length : Int)) = false := by simp [hl]
    replace hl := Lib.hid hl
    replace hx := Lib.hid hx
    replace hy := Lib.hid hy
    go_enter Tryd.func43, Tryd.ntmps43
    go_wp2
    go_loopw [5, 13] (fun _ i wr => ∃ k : Nat, k ≤ xs.length ∧ i = .int .i64 k ∧ xs.take k = ys.take k ∧ ∃ n, wr = w.drewN n) (fun _ i _ => xs.length - (intOf i).toNat)
    case atStart => exact ⟨0, Nat.zero_le _, rfl, rfl, 0, rfl⟩
    case round =>
      obtain ⟨k, hk, rfl, htk, q, rfl⟩ := hrel
      replace htk := Lib.hid htk
      by_cases hlt : k < xs.length
      · obtain ⟨x, hxk⟩ := get_some_of_lt hlt
        obtain ⟨y, hyk⟩ := get_some_of_lt (show k < ys.length by have := hl.out; omega)
        obtain ⟨b, o, rfl, _, hck⟩ := hx.out.at hxk
        obtain ⟨b', o', rfl, _, hck'⟩ := hy.out.at hyk
        simp only [encI] at hck hck'
        replace hxk := Lib.hid hxk
        replace hyk := Lib.hid hyk
        have hlt2 : k < ys.length := by have := hl.out; omega
        by_cases hxy : x = y
        · subst hxy
          go_wp2_with fail
          go_quiet (fail)
          go_wp2
          go_roundw
          case rel => exact ⟨k + 1, by omega, by go_num, by rw [take_snoc_get hxk.out, take_snoc_get hyk.out, htk.out], ⟨_, rfl⟩⟩
          case measure => simp [intOf]; omega
        · have hne : (x != y) = true := by simp only [bne_iff_ne, ne_eq]; exact hxy
          have hf : (xs == ys) = false := by
            simp only [beq_eq_false_iff_ne, ne_eq]; intro h; rw [h] at hxk; have := hxk.out.symm.trans hyk.out; cases this; exact hxy rfl
          replace hf := Lib.hid hf
          replace hxy := Lib.hid hxy
          go_wp2_with fail
          go_quiet (fail)
          go_wp2
          go_ret
          exact ⟨by rw [hf.out]; rfl, ⟨rfl, rfl, rfl, Nat.le_refl _, fun _ _ => rfl⟩⟩
      · have : k = xs.length := by omega
        subst this
        have e : xs = ys := by
          have := htk.out
          rw [List.take_of_length_le (by omega), List.take_of_length_le (by have := hl.out; omega)] at this
          exact this
        replace e := Lib.hid e
        go_wp2
        go_ret
        exact ⟨by rw [e.out]; simp, Below.drewN (Below.refl _ w) _⟩
  · have hb : ((xs.length : Int) != (ys.length : Int)) = true := by simp only [bne_iff_ne, ne_eq]; omega
    have hf : (xs == ys) = false := by simp only [beq_eq_false_iff_ne, ne_eq]; intro h; exact hl (by rw [h])
    replace hf := Lib.hid hf
    go_enter Tryd.func43, Tryd.ntmps43
    go_wp2
    go_ret
    exact ⟨by rw [hf.out]; rfl, Below.refl _ w⟩
end Go.Proofs.YtbgkohfifcfofaaDoor
