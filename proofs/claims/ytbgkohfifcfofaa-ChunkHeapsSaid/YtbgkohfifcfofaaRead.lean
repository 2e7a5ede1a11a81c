/- From a law's arguments, as the row reads them, to the rows that the walks speak of. -/
import Derived.Test.YtbgkohfifcfofaaBase
import Derived.ProofKit
import Derived.OpenShut
import Derived.ShutString
import Derived.ChangeOld
set_option linter.unusedVariables false
set_option linter.unusedSimpArgs false
open Go.RowKit
namespace Go.Proofs.Ytbgkohfifcfofaa
section
variable {H : Type} {enc : TypeId × Value → H} {P : Program} {W : World} {sp : Nat → Bool} {held : Bool}
theorem cells_at {a : Addr} {n : Nat} {cs : List Value} (h : W.cells? 0 a n = some cs) : cs.length = n ∧ ∀ i, i < n → W.cell? (a.add i) = cs[i]? := by
  obtain ⟨_, h2, h3⟩ := World.cells?_some h
  exact ⟨h2, h3⟩
theorem add_plain' (a : Addr) (i : Nat) {v : Value} (h : W.cell? (a.add i) = some v) (h0 : ∃ u, W.cell? (a.add 0) = some u) : a.add i = ⟨a.block, a.off + i, none⟩ := by
  obtain ⟨u, hu⟩ := h0
  obtain ⟨b, o, s⟩ := a
  cases s with
  | none => exact add_plain b o i
  | some s =>
    simp [Addr.add, World.cell?] at hu
    split at hu <;> cases hu
/-- A slice that came in, its elements of one cell. -/
theorem rd_row {α : Type} {enc' : α → Value} {Q : α → Prop} {t e fuel : Nat} {v : Value} {x : DataW H × List MemPlace} (hu : P.underlying t = some (.slice e)) (hC : P.cellsOf e = 1)
    (hel : ∀ n cs x, DataW.trod enc P W 0 sp held n e cs = some x → ∃ y, cs = [enc' y] ∧ Q y) (h : DataW.trod enc P W 0 sp held fuel t [v] = some x) :
    ∃ ys : List α, Row enc' W (fun b => b < W.heap.size) v ys ∧ ∀ y ∈ ys, Q y := by
  rcases DataW.trod_slice hu h with ⟨hcs, _⟩ | ⟨a, len, cap, elems, rest, n, rfl, hcs, _, _, h1, h2, h3, h4, _⟩
  · simp only [List.cons.injEq, and_true] at hcs
    subst hcs
    exact ⟨[], Row.nil _ _ _, by simp⟩
  · simp only [List.cons.injEq, and_true] at hcs
    subst hcs
    have key : ∀ i, i < len → ∃ y, W.cell? (a.add i) = some (enc' y) ∧ Q y := by
      intro i hi
      have := h4 i hi
      rw [List.getElem?_eq_getElem (by omega), hC, Nat.mul_one] at this
      obtain ⟨cs, hcs, ht⟩ := Option.bind_eq_some_iff.1 this
      obtain ⟨y, rfl, hy⟩ := hel _ _ _ ht
      obtain ⟨_, hc⟩ := cells_at hcs
      have := hc 0 (by omega)
      refine ⟨y, ?_, hy⟩
      have e : (a.add i).add 0 = a.add i := by simp [Addr.add]
      rw [e] at this
      exact this
    have hex : ∀ k, k ≤ len → ∃ ys : List α, ys.length = k ∧ (∀ i y, ys[i]? = some y → W.cell? (a.add i) = some (enc' y)) ∧ ∀ y ∈ ys, Q y := by
      intro k
      induction k with
      | zero => exact fun _ => ⟨[], rfl, by simp, by simp⟩
      | succ k ih =>
        intro hk
        obtain ⟨ys, hl, hc, hq⟩ := ih (by omega)
        obtain ⟨y, hy, hqy⟩ := key k (by omega)
        refine ⟨ys ++ [y], by simp [hl], fun i z hz => ?_, fun z hz => ?_⟩
        · rcases Nat.lt_or_ge i ys.length with hi | hi
          · rw [List.getElem?_append_left hi] at hz
            exact hc i z hz
          · rw [List.getElem?_append_right hi] at hz
            have hi0 : i - ys.length = 0 := by
              rcases Nat.eq_zero_or_pos (i - ys.length) with h | h
              · exact h
              · rw [List.getElem?_eq_none (by simp; omega)] at hz; cases hz
            rw [hi0] at hz
            simp at hz
            subst hz
            rw [show i = k from by omega]
            exact hy
        · simp at hz
          rcases hz with hz | rfl
          · exact hq z hz
          · exact hqy
    obtain ⟨ys, hl, hc, hq⟩ := hex len (Nat.le_refl _)
    refine ⟨ys, ⟨some a, cap, by rw [hl], by omega, h2, ?_⟩, hq⟩
    cases ys with
    | nil => exact .inl rfl
    | cons y0 l =>
      have h0 := hc 0 y0 rfl
      have hs : a = ⟨a.block, a.off, none⟩ := by
        have := add_plain' a 0 h0 ⟨_, h0⟩
        simpa [Addr.add] using this
      refine .inr ⟨a.block, a.off, by rw [← hs], ?_, fun j z hz => ?_⟩
      · have := World.block_lt_of_cell? _ _ h0
        simpa [Addr.add] using this
      · have := hc j z hz
        rwa [add_plain' a j this ⟨_, h0⟩] at this
theorem el_B {e : Nat} (he : P.underlying e = some (.int .u8)) : ∀ n cs x, DataW.trod enc P W 0 sp held n e cs = some x → ∃ y, cs = [encB y] ∧ True := by
  intro n cs x h
  obtain ⟨m, rfl, _, hw⟩ := DataW.trod_int he h
  have hb : 0 ≤ m ∧ m ≤ 255 := by simp [Lit.wf, IntKind.min, IntKind.max, IntKind.bits, IntKind.signed] at hw; omega
  refine ⟨UInt8.ofNat m.toNat, ?_, trivial⟩
  simp only [encB, UInt8.toNat_ofNat', List.cons.injEq, Value.int.injEq, true_and, and_true]
  omega
theorem el_I {e : Nat} (he : P.underlying e = some (.int .i64)) : ∀ n cs x, DataW.trod enc P W 0 sp held n e cs = some x → ∃ y, cs = [encI y] ∧ (-9223372036854775808 ≤ y ∧ y ≤ 9223372036854775807) := by
  intro n cs x h
  obtain ⟨m, rfl, _, hw⟩ := DataW.trod_int he h
  exact ⟨m, rfl, by simp [Lit.wf, IntKind.min, IntKind.max, IntKind.bits, IntKind.signed] at hw; omega⟩
end
end Go.Proofs.Ytbgkohfifcfofaa
