/- The walk of slices.Clip at ints. -/
import Derived.Test.YtbgkohfifcfofaaDoorProg
import Derived.Test.YtbgkohfifcfofaaDoorBase
set_option linter.unusedVariables false
set_option linter.unusedSimpArgs false
open Go.RowKit
namespace Go.Proofs.YtbgkohfifcfofaaDoor
open Go.Proofs
theorem clip_I (w : World) (A : Option Addr) (n c : Nat) (h : n ≤ c) (hc : c ≤ maxLen) :
    Calls Tryd.prog 40 #[.slice A n c] w fun e w' => e = .returned (.slice A n n) ∧ w = w' := by
  simp only [maxLen] at hc
  go_enter Tryd.func40, Tryd.ntmps40
  go_wp2
  go_ret
  simp
end Go.Proofs.YtbgkohfifcfofaaDoor
