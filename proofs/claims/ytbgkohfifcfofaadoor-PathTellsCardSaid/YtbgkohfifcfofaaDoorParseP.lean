/- The plain law of the two Parses: reference side. -/
import Derived.Test.YtbgkohfifcfofaaDoorTextW
import Derived.Test.YtbgkohfifcfofaaDoorPathR
set_option linter.unusedVariables false
set_option linter.unusedSimpArgs false
namespace Go.Proofs.YtbgkohfifcfofaaDoor
open Go.Proofs
/-- regencyref08.Parse's loop, from the bytes that are left. -/
def rp : List UInt8 → List Int → Nat → Nat → Option (List Int)
  | [], p, n, d => some (p ++ [(n : Int)])
  | c :: l, p, n, d => if c = 46 then rp l (p ++ [(n : Int)]) 0 0 else if c.toNat < 48 ∨ 57 < c.toNat ∨ 7 < d + 1 then none else rp l p (10 * n + (c.toNat - 48)) (d + 1)
def okP (s : List UInt8) (p : List Int) : Bool := pathRight p && ptextB p == s
/-- regencyref08.Parse -/
def refParse (s : List UInt8) : Option (List Int) :=
  if s = [] then some [] else match rp s [] 0 0 with
    | none => none
    | some p => if okP s p then some p else none
end Go.Proofs.YtbgkohfifcfofaaDoor
