/- Rows whose elements have any number of cells; and how what came in opens to them. -/
import Derived.Test.YtbgkohfifcfofaaRead
import Derived.Lib.SmallJoins
import Derived.Deep.Slices
import Derived.Deep.Fields
set_option linter.unusedVariables false
set_option linter.unusedSimpArgs false
open Go.RowKit
namespace Go.Proofs.Ytbgkohfifcfofaa
/-- v is a slice that reads as xs, its elements of m cells each, read by rd, out of blocks in F. -/
def RowW {α : Type} (m : Nat) (rd : World → α → List Value → Prop) (w : World) (F : Nat → Prop) (v : Value) (xs : List α) : Prop :=
  ∃ A c, v = .slice A xs.length c ∧ xs.length ≤ c ∧ c ≤ maxLen ∧ (xs = [] ∨ ∃ b o, A = some ⟨b, o, none⟩ ∧ F b ∧
    ∀ (j : Nat) x, xs[j]? = some x → ∃ vs : List Value, vs.length = m ∧ rd w x vs ∧ ∀ (i : Nat) u, vs[i]? = some u → w.cell? ⟨b, o + j * m + i, none⟩ = some u)
section
variable {α : Type} {m : Nat} {rd : World → α → List Value → Prop} {w w1 : World} {F G S : Nat → Prop} {v : Value} {xs : List α}
theorem RowW.nil (m : Nat) (rd : World → α → List Value → Prop) (w : World) (F : Nat → Prop) : RowW m rd w F (.slice none 0 0) [] := ⟨none, 0, rfl, Nat.le_refl _, by simp [maxLen], .inl rfl⟩
theorem RowW.shape (h : RowW m rd w F v xs) : ∃ A c, v = .slice A xs.length c ∧ xs.length ≤ c ∧ c ≤ maxLen := by
  obtain ⟨A, c, h, h1, h2, _⟩ := h
  exact ⟨A, c, h, h1, h2⟩
theorem RowW.shp (h : RowW m rd w F v xs) : ∃ A n c, v = .slice A n c := by
  obtain ⟨A, c, h, _⟩ := h
  exact ⟨A, _, c, h⟩
theorem RowW.len {A : Option Addr} {c n : Nat} (h : RowW m rd w F (.slice A n c) xs) : n = xs.length ∧ n ≤ c ∧ c ≤ maxLen := by
  obtain ⟨A', c', he, h1, h2, _⟩ := h
  cases he
  exact ⟨rfl, h1, h2⟩
theorem RowW.at {A : Option Addr} {c n : Nat} (h : RowW m rd w F (.slice A n c) xs) {k : Nat} {x : α} (hx : xs[k]? = some x) :
    ∃ b o, A = some ⟨b, o, none⟩ ∧ F b ∧ ∃ vs : List Value, vs.length = m ∧ rd w x vs ∧ ∀ (i : Nat) u, vs[i]? = some u → w.cell? ⟨b, o + k * m + i, none⟩ = some u := by
  obtain ⟨A', c', he, h1, h2, h3⟩ := h
  cases he
  rcases h3 with rfl | ⟨b, o, h, hb, hc⟩
  · simp at hx
  · exact ⟨b, o, h, hb, hc k x hx⟩
theorem RowW.mono (h : RowW m rd w F v xs) (hf : ∀ b, F b → G b) : RowW m rd w G v xs := by
  obtain ⟨A, c, rfl, h1, h2, h3⟩ := h
  refine ⟨A, c, rfl, h1, h2, h3.imp id ?_⟩
  rintro ⟨b, o, h, hb, hc⟩
  exact ⟨b, o, h, hf b hb, hc⟩
theorem RowW.keep (h : RowW m rd w F v xs) (hk : Keeps S w w1) (hs : ∀ b, F b → ¬ S b) (hr : ∀ x vs, rd w x vs → rd w1 x vs) : RowW m rd w1 F v xs := by
  obtain ⟨A, c, rfl, h1, h2, h3⟩ := h
  refine ⟨A, c, rfl, h1, h2, h3.imp id ?_⟩
  rintro ⟨b, o, h, hb, hc⟩
  refine ⟨b, o, h, hb, fun j x hx => ?_⟩
  obtain ⟨vs, l1, l2, l3⟩ := hc j x hx
  exact ⟨vs, l1, hr x vs l2, fun i u hu => hk.cell (l3 i u hu) (hs b hb)⟩
theorem RowW.below (h : RowW m rd w F v xs) (hk : Below w.heap.size w w1) (hr : ∀ x vs, rd w x vs → rd w1 x vs) : RowW m rd w1 F v xs := h.keep (Keeps.of_below hk NoB) (fun _ _ h => h) hr
end
section
variable {H : Type} {enc : TypeId × Value → H} {P : Program} {W : World} {sp : Nat → Bool} {held : Bool}
/-- Whatever of type t can be read is read by rd. -/
def Opens {α : Type} (enc : TypeId × Value → H) (P : Program) (W : World) (sp : Nat → Bool) (held : Bool) (t : TypeId) (m : Nat) (rd : World → α → List Value → Prop) : Prop :=
  ∀ n cs x, DataW.trod enc P W 0 sp held n t cs = some x → cs.length = m ∧ ∃ y, rd W y cs
/-- A slice that came in. -/
theorem rd_rowM {α : Type} {m : Nat} {rd : World → α → List Value → Prop} {t e fuel : Nat} {v : Value} {x : DataW H × List MemPlace} (hu : P.underlying t = some (.slice e)) (hC : P.cellsOf e = m) (hm : 0 < m)
    (hel : Opens enc P W sp held e m rd) (h : DataW.trod enc P W 0 sp held fuel t [v] = some x) :
    ∃ ys : List α, RowW m rd W (fun b => b < W.heap.size) v ys := by
  rcases DataW.trod_slice hu h with ⟨hcs, _⟩ | ⟨a, len, cap, elems, rest, n, rfl, hcs, _, _, h1, h2, h3, h4, _⟩
  · simp only [List.cons.injEq, and_true] at hcs
    subst hcs
    exact ⟨[], RowW.nil _ _ _ _⟩
  · simp only [List.cons.injEq, and_true] at hcs
    subst hcs
    have key : ∀ i, i < len → ∃ y vs, vs.length = m ∧ rd W y vs ∧ ∀ (j : Nat) u, vs[j]? = some u → W.cell? (a.add (i * m + j)) = some u := by
      intro i hi
      have := h4 i hi
      rw [List.getElem?_eq_getElem (by omega), hC] at this
      obtain ⟨cs, hcs, ht⟩ := Option.bind_eq_some_iff.1 this
      obtain ⟨hl, y, hy⟩ := hel _ _ _ ht
      obtain ⟨_, hc⟩ := cells_at hcs
      refine ⟨y, cs, hl, hy, fun j u hj => ?_⟩
      have hjl := (List.getElem?_eq_some_iff.1 hj).1
      have := hc j (by omega)
      rw [Go.Deep.add_add] at this
      rw [this, hj]
    have hex : ∀ k, k ≤ len → ∃ ys : List α, ys.length = k ∧ ∀ (i : Nat) y, ys[i]? = some y → ∃ vs, vs.length = m ∧ rd W y vs ∧ ∀ (j : Nat) u, vs[j]? = some u → W.cell? (a.add (i * m + j)) = some u := by
      intro k
      induction k with
      | zero => exact fun _ => ⟨[], rfl, by simp⟩
      | succ k ih =>
        intro hk
        obtain ⟨ys, hl, hc⟩ := ih (by omega)
        obtain ⟨y, hy⟩ := key k (by omega)
        refine ⟨ys ++ [y], by simp [hl], fun i z hz => ?_⟩
        rcases Nat.lt_or_ge i ys.length with hi | hi
        · rw [List.getElem?_append_left hi] at hz
          exact hc i z hz
        · rw [List.getElem?_append_right hi] at hz
          have hi0 : i - ys.length = 0 := by
            rcases Nat.eq_zero_or_pos (i - ys.length) with h | h
            · exact h
            · rw [List.getElem?_eq_none (by simp; omega)] at hz; cases hz
          rw [hi0] at hz
          simp at hz
          subst hz
          rw [show i = k from by omega]
          exact hy
    obtain ⟨ys, hl, hc⟩ := hex len (Nat.le_refl _)
    refine ⟨ys, ⟨some a, cap, by rw [hl], by omega, h2, ?_⟩⟩
    cases ys with
    | nil => exact .inl rfl
    | cons y0 l =>
      obtain ⟨vs, l1, l2, l3⟩ := hc 0 y0 rfl
      have h0 := l3 0 (vs[0]'(by omega)) (List.getElem?_eq_getElem (by omega))
      have hs : a = ⟨a.block, a.off, none⟩ := by
        have := add_plain' a 0 (by simpa using h0) ⟨_, by simpa using h0⟩
        simpa [Addr.add] using this
      refine .inr ⟨a.block, a.off, by rw [← hs], ?_, fun j z hz => ?_⟩
      · have := World.block_lt_of_cell? _ _ h0
        simpa [Addr.add] using this
      · obtain ⟨ws, m1, m2, m3⟩ := hc j z hz
        refine ⟨ws, m1, m2, fun i u hu => ?_⟩
        have := m3 i u hu
        rw [hs, add_plain, ← Nat.add_assoc] at this
        exact this
/-- A struct's field, read. -/
theorem trod_field {t : TypeId} {fs : Array Field} {fuel : Nat} {cs : List Value} {x : DataW H × List MemPlace} (he : P.underlying t = some (.struct fs)) (h : DataW.trod enc P W 0 sp held fuel t cs = some x) (i : Nat) (f : Field) (hf : fs[i]? = some f) :
    ∃ n y, DataW.trod enc P W 0 sp held n f.type ((cs.drop f.offset).take (P.cellsOf f.type)) = some y := by
  obtain ⟨xs, n, _, _, _, hl, hg⟩ := DataW.trod_struct he h
  have hi := (Array.getElem?_eq_some_iff.1 hf).1
  exact ⟨n, xs[i]'(by omega), (hg i f hf).trans (List.getElem?_eq_getElem (by omega))⟩
theorem trod_cells {t : TypeId} {fs : Array Field} {fuel : Nat} {cs : List Value} {x : DataW H × List MemPlace} (he : P.underlying t = some (.struct fs)) (h : DataW.trod enc P W 0 sp held fuel t cs = some x) : cs.length = P.cellsOf t := by
  obtain ⟨xs, n, _, _, hc, _⟩ := DataW.trod_struct he h
  exact hc
theorem rd_int {t fuel : Nat} {cs : List Value} {x : DataW H × List MemPlace} (he : P.underlying t = some (.int .i64)) (h : DataW.trod enc P W 0 sp held fuel t cs = some x) : ∃ n : Int, cs = [.int .i64 n] ∧ (-9223372036854775808 ≤ n ∧ n ≤ 9223372036854775807) := by
  obtain ⟨m, h1, _, hw⟩ := DataW.trod_int he h
  exact ⟨m, h1, by simp [Lit.wf, IntKind.min, IntKind.max, IntKind.bits, IntKind.signed] at hw; omega⟩
theorem rd_str {t fuel : Nat} {cs : List Value} {x : DataW H × List MemPlace} (he : P.underlying t = some .string) (h : DataW.trod enc P W 0 sp held fuel t cs = some x) : ∃ l : List UInt8, cs = [encS l] ∧ l.length ≤ maxLen := by
  obtain ⟨s, h1, _, hw⟩ := DataW.trod_string he h
  exact ⟨s.data.toList, by rw [h1]; simp [encS], by simpa using hw⟩
theorem rd_bytes {t e fuel : Nat} {cs : List Value} {x : DataW H × List MemPlace} (hu : P.underlying t = some (.slice e)) (hC : P.cellsOf e = 1) (he : P.underlying e = some (.int .u8)) (h : DataW.trod enc P W 0 sp held fuel t cs = some x) :
    ∃ (l : List UInt8) (v : Value), cs = [v] ∧ Row encB W (fun b => b < W.heap.size) v l := by
  have hcs : ∃ v, cs = [v] := by
    rcases DataW.trod_slice hu h with ⟨hcs, _⟩ | ⟨a, len, cap, elems, rest, n, rfl, hcs, _⟩
    · exact ⟨_, hcs⟩
    · exact ⟨_, hcs⟩
  obtain ⟨v, rfl⟩ := hcs
  obtain ⟨l, hr, _⟩ := rd_row hu hC (el_B he) h
  exact ⟨l, v, rfl, hr⟩
end
end Go.Proofs.Ytbgkohfifcfofaa
