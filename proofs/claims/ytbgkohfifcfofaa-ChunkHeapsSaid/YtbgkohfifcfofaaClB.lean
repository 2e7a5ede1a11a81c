/- The walk of slices.Clone at bytes. -/
import Derived.Test.YtbgkohfifcfofaaProg
import Derived.Test.YtbgkohfifcfofaaBase
set_option linter.unusedVariables false
set_option linter.unusedSimpArgs false
open Go.RowKit
namespace Go.Proofs.Ytbgkohfifcfofaa
open Go.Proofs
theorem elB : El Try.prog 22 5 (.int .u8 0) 1 := ⟨by kernel_rfl, by kernel_rfl, rfl, by omega⟩
theorem nilq_B : ∀ (w : World) (A : Option Addr) (n c : Nat), (binOp .eql 22 (.slice A n c) (.slice none 0 0)).run Try.prog w = .ok (.bool A.isNone) w :=
  fun w A n c => Lib.run_eql_slice_nil w _ _ A n c 0 0 Try.underlying22
theorem clone_B (w : World) (F : Nat → Prop) (v : Value) (xs : List UInt8) (hr : Row encB w F v xs) (hl : xs.length ≤ 10000000000000) :
    Calls Try.prog 23 #[v] w (RetOwn encB 5 xs w) := by
  have hnil := nilq_B
  obtain ⟨A, c, rfl, hc1, hc2⟩ := hr.shape
  cases A with
  | none =>
    obtain rfl : xs = [] := by
      obtain ⟨_, _, he, _, _, h | ⟨b, o, h, _⟩⟩ := hr
      · exact h
      · cases he; cases h
    go_enter Try.func23, Try.ntmps23
    go_wp2
    go_ret
    exact ⟨_, rfl, Below.refl _ _, Own.nil _ _ _ _⟩
  | some a =>
    have hv := Own.empty encB 5 w w.heap.size (Nat.le_refl _)
    have hu := (hr.below ((Below.refl _ w).alloc (Nat.le_refl _) (.cells #[] 5))).src
    have hb : (([] : List UInt8).length + xs.length) * 1 ≤ 140737488355328 := by simp; omega
    have hw : w.heap.size ≤ (w.alloc (.cells #[] 5)).heap.size := by simp
    replace hv := Lib.hid hv; replace hu := Lib.hid hu; replace hb := Lib.hid hb; replace hw := Lib.hid hw
    go_enter Try.func23, Try.ntmps23
    go_wp2_with (at_builtin; go_must (refine wp_app_own (fun _ => rfl) elB elB.t (by simp) hv.out hu.out hb.out hw.out rfl _ _ rfl rfl rfl ?_); rintro v' w' ⟨hown, hk, _⟩)
    go_ret
    exact ⟨_, rfl, (((Keeps.refl NoB w).alloc _).trans hk (by intro b hb h; simp [Value.ownBlock] at h; omega)).below, hown⟩
end Go.Proofs.Ytbgkohfifcfofaa
