/- The walk of (*tape.Tape).Left. -/
import Derived.Test.YtbgkohfifcfofaaDoorTapeW
set_option linter.unusedVariables false
set_option linter.unusedSimpArgs false
set_option maxRecDepth 100000
open Go.RowKit
namespace Go.Proofs.YtbgkohfifcfofaaDoor
open Go.Proofs
theorem tape_left (w : World) (F : Nat → Prop) (bt : Nat) (t : TP) (h : TapeAt F w bt t) :
    Calls Tryd.prog 11 #[.pointer (some ⟨bt, 0, none⟩)] w fun e w' => e = .returned (.int .i64 (t.l.length : Int)) ∧ w = w' := by
  obtain ⟨v, ev, hb, hrow, hev⟩ := h.at_
  obtain ⟨A, c, rfl, _, hc2⟩ := hrow.shape
  simp only [maxLen] at hc2
  have hc1 : w.cell? ⟨bt, 0, none⟩ = some (.slice A t.l.length c) := cell_of_get hb rfl
  clear hb hrow h hev
  go_enter Tryd.func11, Tryd.ntmps11
  go_wp2
  go_ret
  simp
end Go.Proofs.YtbgkohfifcfofaaDoor
