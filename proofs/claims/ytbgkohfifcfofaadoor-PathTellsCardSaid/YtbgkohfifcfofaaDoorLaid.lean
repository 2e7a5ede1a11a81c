/- What the rows' condition on the laid variables gives a walk; a world that meets it. -/
import Derived.Test.YtbgkohfifcfofaaDoorRows
import Derived.Test.YtbgkohfifcfofaaDoorAtoiW
import Derived.LaidLaws
import Derived.Deep.DeepLaidRun
import Derived.Lib.LaidTab
import Derived.Lib.LaidU8
import Derived.JoinedOf
import Derived.Handed
set_option linter.unusedVariables false
set_option linter.unusedSimpArgs false
set_option maxRecDepth 100000
open Go.RowKit
namespace Go.Proofs.YtbgkohfifcfofaaDoor
open Go.Proofs
/-- The list of every row of this seat. -/
abbrev laidAll : List (String × DataW Unit) := [("math/bits.deBruijn32tab", Rows.laid_math_bits_deBruijn32tab), ("math/bits.deBruijn64tab", Rows.laid_math_bits_deBruijn64tab), ("internal/strconv.uint64pow10", Rows.laid_internal_strconv_uint64pow10), ("unicode/utf8.acceptRanges", Rows.laid_unicode_utf8_acceptRanges), ("strconv.ErrRange", Rows.laid_strconv_ErrRange), ("strconv.ErrSyntax", Rows.laid_strconv_ErrSyntax), ("unicode/utf8.first", Rows.laid_unicode_utf8_first)]
theorem pow10_type : (Tryd.prog.globals[5]?).map (·.type) = some 123 := by kernel_rfl
theorem TabW.of_laid {W : World} (h : laidMet Tryd.prog laidAll W) : TabW W := by
  obtain ⟨g', t', cs, fuel, p, hg', ht', hvar, hd⟩ := Lib.laidMet.reads h (n := "internal/strconv.uint64pow10") (d := Rows.laid_internal_strconv_uint64pow10) (.tail _ (.tail _ (.head _)))
  obtain rfl := Option.some.inj ((show Tryd.prog.globalNamed "internal/strconv.uint64pow10" = some 5 by kernel_rfl).symm.trans hg')
  obtain rfl := Option.some.inj (pow10_type.symm.trans ht')
  have hd' : DataW.trod (fun _ => ()) Tryd.prog W 0 (fun _ => true) false fuel 123 cs.toList = some (Lib.tabData .u64 Lib.pow10Tab, p) := hd
  have hc := Lib.cells_of_tab (e := 100) (n := 20) Tryd.underlying123 Tryd.underlying100 (by kernel_rfl) (by kernel_rfl) hd'
  unfold TabW Lib.TabIs
  rw [hvar, ← hc]
theorem iface_var {W : World} {n : String} {g : Nat} {t : TypeId} {ms : Array (String × TypeId)} (hg : Tryd.prog.globalNamed n = some g) (ht : (Tryd.prog.globals[g]?).map (·.type) = some t) (hi : Tryd.prog.underlying t = some (.interface ms)) {nm : String} {d : DataW Unit}
    (h : Lib.VarReads Tryd.prog W n (.iface nm d)) : ∃ tp p, W.var? Tryd.prog n = some #[.iface tp p] := by
  obtain ⟨g', t', cs, fuel, p, hg', ht', hvar, hd⟩ := h
  obtain rfl := Option.some.inj (hg.symm.trans hg')
  obtain rfl := Option.some.inj (ht.symm.trans ht')
  obtain ⟨f1, u, v, hcs, _⟩ := iface_of_trod hi hd
  refine ⟨u, v, ?_⟩
  rw [hvar]
  obtain ⟨l⟩ := cs
  simp only at hcs
  rw [hcs]
theorem VarW.of_laid {W : World} (h : laidMet Tryd.prog laidAll W) : VarW W :=
  ⟨iface_var (g := 0) (t := 55) (by kernel_rfl) (by kernel_rfl) Tryd.underlying55 (Lib.laidMet.reads h (n := "strconv.ErrSyntax") (d := Rows.laid_strconv_ErrSyntax) (.tail _ (.tail _ (.tail _ (.tail _ (.tail _ (.head _))))))),
   iface_var (g := 1) (t := 55) (by kernel_rfl) (by kernel_rfl) Tryd.underlying55 (Lib.laidMet.reads h (n := "strconv.ErrRange") (d := Rows.laid_strconv_ErrRange) (.tail _ (.tail _ (.tail _ (.tail _ (.head _))))))⟩
/-! ### a world that meets it -/
def flat1 : DataW Unit → List Value
  | .lit (.int k n) => [.int k n]
  | .agg ds => ds.filterMap fun d => match d with
    | .lit (.int k n) => some (.int k n)
    | _ => none
  | _ => []
def flat2 : DataW Unit → Array Value
  | .agg ds => (ds.flatMap flat1).toArray
  | _ => #[]
noncomputable def low : Nat := (World.holding Tryd.prog default ⟨#[], #[], []⟩).heap.size
def put (cs : Array Value) : Obj → Obj
  | .cells _ t frozen => .cells cs t frozen
  | o => o
def rangeS : ByteArray := ⟨#[118, 97, 108, 117, 101, 32, 111, 117, 116, 32, 111, 102, 32, 114, 97, 110, 103, 101]⟩
def wordS : ByteArray := ⟨#[105, 110, 118, 97, 108, 105, 100, 32, 115, 121, 110, 116, 97, 120]⟩
noncomputable def laidWorld (os : Os) : World :=
  let w0 := World.holding Tryd.prog os ⟨#[.cells #[.string rangeS] 121, .cells #[.string wordS] 121], #[], []⟩
  { w0 with heap := ((((((w0.heap.modify 1 (put #[.iface 119 (.pointer (some ⟨low, 0, none⟩))])).modify 0 (put #[.iface 119 (.pointer (some ⟨low + 1, 0, none⟩))])).modify
      6 (put (flat2 Rows.laid_math_bits_deBruijn32tab))).modify 7 (put (flat2 Rows.laid_math_bits_deBruijn64tab))).modify 5 (put (flat2 Rows.laid_internal_strconv_uint64pow10))).modify
      3 (put (flat2 Rows.laid_unicode_utf8_acceptRanges))).modify 2 (put (flat2 Rows.laid_unicode_utf8_first)) }
theorem laidWorld_met (os : Os) (args : Array Value) : laidMet Tryd.prog laidAll ((laidWorld os).forCall (fun _ _ => 0) ⟨#[], args, []⟩).memory :=
  laidMet_of_run3 8 (by kernel_rfl) (by kernel_rfl) (by kernel_rfl)
end Go.Proofs.YtbgkohfifcfofaaDoor
