/- The walk of slices.Clone at ints. -/
import Derived.Test.YtbgkohfifcfofaaDoorProg
import Derived.Test.YtbgkohfifcfofaaDoorBase
set_option linter.unusedVariables false
set_option linter.unusedSimpArgs false
open Go.RowKit
namespace Go.Proofs.YtbgkohfifcfofaaDoor
open Go.Proofs
theorem elI : El Tryd.prog 29 3 (.int .i64 0) 8 := ⟨by kernel_rfl, by kernel_rfl, rfl, by omega⟩
theorem nilq_I : ∀ (w : World) (A : Option Addr) (n c : Nat), (binOp .eql 29 (.slice A n c) (.slice none 0 0)).run Tryd.prog w = .ok (.bool A.isNone) w :=
  fun w A n c => Lib.run_eql_slice_nil w _ _ A n c 0 0 Tryd.underlying29
theorem clone_I (w : World) (F : Nat → Prop) (v : Value) (xs : List Int) (hr : Row encI w F v xs) (hl : xs.length ≤ 10000000000000) :
    Calls Tryd.prog 39 #[v] w (RetOwn encI 3 xs w) := by
  have hnil := nilq_I
  obtain ⟨A, c, rfl, hc1, hc2⟩ := hr.shape
  cases A with
  | none =>
    obtain rfl : xs = [] := by
      obtain ⟨_, _, he, _, _, h | ⟨b, o, h, _⟩⟩ := hr
      · exact h
      · cases he; cases h
    go_enter Tryd.func39, Tryd.ntmps39
    go_wp2
    go_ret
    exact ⟨_, rfl, Below.refl _ _, Own.nil _ _ _ _⟩
  | some a =>
    have hv := Own.empty encI 3 w w.heap.size (Nat.le_refl _)
    have hu := (hr.below ((Below.refl _ w).alloc (Nat.le_refl _) (.cells #[] 3))).src
    have hb : (([] : List Int).length + xs.length) * 8 ≤ 140737488355328 := by simp; omega
    have hw : w.heap.size ≤ (w.alloc (.cells #[] 3)).heap.size := by simp
    replace hv := Lib.hid hv; replace hu := Lib.hid hu; replace hb := Lib.hid hb; replace hw := Lib.hid hw
    go_enter Tryd.func39, Tryd.ntmps39
    go_wp2_with (at_builtin; go_must (refine wp_app_own (fun _ => rfl) elI elI.t (by simp) hv.out hu.out hb.out hw.out rfl _ _ rfl rfl rfl ?_); rintro v' w' ⟨hown, hk, _⟩)
    go_ret
    exact ⟨_, rfl, (((Keeps.refl NoB w).alloc _).trans hk (by intro b hb h; simp [Value.ownBlock] at h; omega)).below, hown⟩
end Go.Proofs.YtbgkohfifcfofaaDoor
