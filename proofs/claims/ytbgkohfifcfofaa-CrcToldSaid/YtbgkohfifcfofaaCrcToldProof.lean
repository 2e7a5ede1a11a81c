/- One or two inverted bits of a sealed byte string are detected: the law CrcTold returns true for every input and leaves its arguments as they were. -/
import Derived.Test.YtbgkohfifcfofaaRows
import Derived.Test.YtbgkohfifcfofaaCrcW
import Derived.Test.YtbgkohfifcfofaaRead
set_option linter.unusedVariables false
set_option linter.unusedSimpArgs false
namespace Go.Proofs.Ytbgkohfifcfofaa.crcTold
open Go.ChangeShapes Go.WideShapes Go.ChangeAt Go.RowKit
open Go.ChangeMaps (open_string shut_string)

theorem own : ownKnob Try.prog.godebug = none := by kernel_rfl
theorem laidOut : laidOutB Try.prog = true := by kernel_rfl
theorem cells_arr : Try.prog.cellsOf 24 = 2 := by kernel_rfl
theorem cells_B : Try.prog.cellsOf 5 = 1 := by kernel_rfl
theorem cells_u16 : Try.prog.cellsOf 23 = 1 := by kernel_rfl

set_option maxHeartbeats 400000 in
theorem walk (w : World) (v : Value) (xs : List UInt8) (p q : Int) (hr : Row encB w (fun b => b < w.heap.size) v xs) (hp : 0 ≤ p ∧ p < 65536) (hq : 0 ≤ q ∧ q < 65536) :
    Calls Try.prog 3 #[v, .agg #[.int .u16 p, .int .u16 q]] w (RetB (.bool true) w) := by
  obtain ⟨A, c, rfl, hc1, hc2⟩ := hr.shape
  by_cases hl : xs.length ≤ 500
  · exact law_walk w _ A _ c xs p q hr hp.1 hp.2 hq.1 hq.2 hl
  · simp only [maxLen] at hc2
    go_enter Try.func3, Try.ntmps3
    go_wp2_with fail
    refine (first_any _).mono ?_
    rintro e w1 ⟨rfl, hb1⟩
    go_wp2
    go_ret
    exact ⟨rfl, Below.step ((Below.refl _ w).alloc (Nat.le_refl _) _) hb1⟩

set_option maxRecDepth 100000 in
theorem lifted (os : Os) (started : os.Started) (H : Type) (enc : TypeId × Value → H) :
    ReturnsInHanded {} Try.checked os 3 .any (Rows.crcToldSpec.pre6 enc Try.prog Try.f3 Rows.crcToldRow.domain false) (Rows.crcToldSpec.post enc Try.prog Try.f3 false true false false) := by
  refine returnsInHanded_of_change (C := Try.checked) own started (by kernel_rfl) Try.func3
    (ChangeSpec.witness6 (enc := enc) (C := Try.checked) false ⟨#[], #[.slice none 0 0, .agg #[.int .u16 0, .int .u16 0]], []⟩ 8 (by kernel_rfl) (by kernel_rfl) (by kernel_rfl) (by kernel_rfl)) ?_
  intro W base args ds gs before hval0 hW hcnd _
  have hval : ∀ (j : Nat) t v, Try.f3.params[j]? = some t → args[j]? = some v → Value.okWide Try.prog W .any base t v := hval0
  have hW' := hW
  obtain ⟨p, q, hA0, hV, rfl, hfz, hnd⟩ := hW
  have hA : DataW.TrodAll enc Try.prog W 0 (fun _ => true) true Try.f3.params.toList args.toList ds p := hA0
  rw [Try.params3] at hA hval
  obtain ⟨v0, vs0, d0, ds0, p0, q0, hargs, rfl, rfl, h0, r0⟩ := trodAll_cons hA
  obtain ⟨v1, vs1, d1, ds1, p1, q1, rfl, rfl, rfl, h1, r1⟩ := trodAll_cons r0
  obtain ⟨rfl, rfl, rfl⟩ := trodAll_nil r1
  obtain rfl : args = #[v0, v1] := by cases args; simp_all
  obtain ⟨rfl, rfl⟩ := trodVars_none hV
  obtain ⟨a0, len0, cap0, rfl⟩ := okWide_slice Try.underlying22 (hval 0 22 v0 rfl rfl)
  have k0 := h0
  have k1 := h1
  have lt0 : ∀ x ∈ p0, x.block < W.heap.size := by obtain ⟨m, hm⟩ := k0; exact DataW.trod_lt m _ _ _ hm
  have lt1 : ∀ x ∈ p1, x.block < W.heap.size := by obtain ⟨m, hm⟩ := k1; exact DataW.trod_lt m _ _ _ hm
  obtain ⟨xs, hrow, _⟩ : ∃ ys : List UInt8, Row encB W (fun b => b < W.heap.size) (.slice a0 len0 cap0) ys ∧ ∀ y ∈ ys, True := by
    obtain ⟨fuel, hf⟩ := h0
    exact rd_row Try.underlying22 cells_B (el_B Try.underlying5) hf
  obtain ⟨a, b, rfl, hp, hq⟩ : ∃ a b : Int, v1 = .agg #[.int .u16 a, .int .u16 b] ∧ (0 ≤ a ∧ a < 65536) ∧ (0 ≤ b ∧ b < 65536) := by
    have hv := hval 1 24 v1 rfl rfl
    unfold Value.okWide at hv
    rw [Try.underlying24] at hv
    obtain ⟨cs, rfl, hsz, _⟩ := hv
    rw [cells_arr] at hsz
    obtain ⟨c0, c1, rfl⟩ := Joins.array2 hsz
    obtain ⟨fuel, hf⟩ := h1
    obtain ⟨ys, m, _, _, _, hn, hx⟩ := DataW.trod_array Try.underlying24 hf
    have x0 := hx 0 (by omega)
    have x1 := hx 1 (by omega)
    rw [cells_u16, List.getElem?_eq_getElem (by omega)] at x0 x1
    simp [Value.cells] at x0 x1
    obtain ⟨n0, e0, _, w0⟩ := DataW.trod_int Try.underlying23 x0
    obtain ⟨n1, e1, _, w1⟩ := DataW.trod_int Try.underlying23 x1
    simp at e0 e1
    subst e0 e1
    refine ⟨n0, n1, rfl, ?_, ?_⟩
    · simp [Lit.wf, IntKind.min, IntKind.max, IntKind.bits, IntKind.signed] at w0; omega
    · simp [Lit.wf, IntKind.min, IntKind.max, IntKind.bits, IntKind.signed] at w1; omega
  clear hA0 hval0
  refine (walk W _ xs a b hrow hp hq).mono fun e W' ⟨he, bel⟩ => ?_
  subst he
  exact ⟨_, rfl, _, _, _, [], _, [], hW', trodAll_mk1 (shut_bool Try.underlying4 _), (trodAll_cons_mk (Below.trod laidOut (by kernel_rfl) (of_decide_eq_true (by kernel_rfl)) k0 bel lt0) (trodAll_cons_mk (Below.trod laidOut (by kernel_rfl) (of_decide_eq_true (by kernel_rfl)) k1 bel lt1) trodAll_mk0)), rfl, bel.frame _, fun h => by cases h⟩

theorem over : Rows.crcToldRow.holds Try.pinned (OpenSpec.ofChange Rows.crcToldSpec) :=
  OpenClaim.holds_of_wide 3 Try.f3 rfl rfl rfl rfl rfl rfl rfl ⟨rfl, rfl, rfl, rfl, rfl⟩ rfl rfl rfl rfl rfl (by kernel_rfl) Try.func3 (by kernel_rfl)
    (of_decide_eq_true (by kernel_rfl)) (by unfold Func.isWrapper; first | (rw [if_pos (by decide +kernel)]; kernel_rfl) | (rw [if_neg (by decide +kernel)]; exact ⟨rfl, rfl⟩))
    (fun os started H enc _ => lifted os started H enc)
end Go.Proofs.Ytbgkohfifcfofaa.crcTold
namespace Go.Proofs.Ytbgkohfifcfofaa
theorem crcTold_holds : Rows.CrcToldSaid := crcTold.over
#print axioms crcTold_holds
end Go.Proofs.Ytbgkohfifcfofaa
