/- Maps whose elements are any values: what is at each key, and how many there are. -/
import Derived.Test.YtbgkohfifcfofaaBase
import Derived.Maps.OwnSet
set_option linter.unusedVariables false
set_option linter.unusedSimpArgs false
set_option linter.unusedSectionVars false
open Go.RowKit
namespace Go.Proofs.Ytbgkohfifcfofaa
open Go.Maps (Keyed IsMap Tidy)
/-- An element, read as itself. -/
def valE (v : Value) : Option (DataW Value × List MemPlace) := some (.held v, [])
/-- A map's keys. -/
structure KeyI (P : Program) (k : TypeId) (α : Type) where
  law : Keyed P k
  val : α → Value
  lit : α → Lit
  ok : α → Prop
  of_ : ∀ a, ok a → keyOf P k (val a) = some (lit a)
  inj : ∀ a b, lit a = lit b → a = b
  isKey : ∀ a, WideAt.IsKeyLit (lit a)
section
variable {P : Program} {k e t : TypeId} {α : Type} [DecidableEq α] (K : KeyI P k α)
/-- Block b is a map: f says what is at each key; n: how many there are. -/
structure MapIs (w : World) (b : Nat) (f : α → Option Value) (n : Nat) : Prop where
  ex : ∃ D : DataW Value, w.ownsMap P k valE b n D ∧ Maps.size D = n ∧ ∀ a, Maps.has D (K.lit a) = (f a).isSome ∧ ∀ z v, f a = some v → D.atKey (K.lit a) z = .held v
variable {K} {w w1 : World} {S : Nat → Prop} {b n : Nat} {f : α → Option Value}
theorem MapIs.made (w : World) : MapIs K (w.alloc (.map #[] 0)) w.heap.size (fun _ => none) 0 :=
  ⟨_, World.ownsMap_made w P k valE, rfl, fun a => ⟨rfl, fun z v h => by cases h⟩⟩
theorem MapIs.lt (h : MapIs K w b f n) : b < w.heap.size := by
  obtain ⟨D, h1, _⟩ := h.ex
  exact h1.lt
theorem MapIs.keep (h : MapIs K w b f n) (hk : Keeps S w w1) (hb : ¬ S b) : MapIs K w1 b f n := by
  obtain ⟨D, ⟨es, clock, h1, h2, h3, h4⟩, r⟩ := h.ex
  exact ⟨D, ⟨es, clock, hk.get h1 hb, h2, h3, h4⟩, r⟩
theorem MapIs.below (h : MapIs K w b f n) (hk : Below w.heap.size w w1) : MapIs K w1 b f n := h.keep (Keeps.of_below hk NoB) (fun h => h)
theorem MapIs.belowB {B : Nat} (h : MapIs K w b f n) (hk : Below B w w1) (hb : b < B) : MapIs K w1 b f n := by
  obtain ⟨D, ⟨es, clock, h1, h2, h3, h4⟩, r⟩ := h.ex
  exact ⟨D, ⟨es, clock, (hk.block b hb).trans h1, h2, h3, h4⟩, r⟩
/-- 'v, ok := m[k]' -/
theorem MapIs.look_ok (h : MapIs K w b f n) (ht : P.underlying t = some (.map k e)) {z : Value} (hz : (zeroValue e).run P w = .ok z w) (a : α) (ha : K.ok a) :
    (Instr.lookup t (.map (some b)) (K.val a) true).run P w = .ok (.tuple #[(f a).getD z, .bool (f a).isSome]) w := by
  obtain ⟨D, h1, h2, h3⟩ := h.ex
  obtain ⟨v, ps, hr, hv⟩ := h1.look_ok K.law ht hz (zd := .held z) (zp := []) rfl (K.of_ a ha)
  obtain ⟨h4, h5⟩ := h3 a
  rw [hr, h4]
  congr 4
  simp only [valE, Option.some.injEq, Prod.mk.injEq] at hv
  cases hf : f a with
  | none =>
    rw [hf] at h4
    rw [Maps.atKey_of_not_has h4] at hv
    exact DataW.held.inj hv.1
  | some u =>
    rw [h5 _ u hf] at hv
    exact DataW.held.inj hv.1
/-- 'v := m[k]' -/
theorem MapIs.look (h : MapIs K w b f n) (ht : P.underlying t = some (.map k e)) {z : Value} (hz : (zeroValue e).run P w = .ok z w) (a : α) (ha : K.ok a) :
    (Instr.lookup t (.map (some b)) (K.val a) false).run P w = .ok ((f a).getD z) w := by
  obtain ⟨D, h1, h2, h3⟩ := h.ex
  obtain ⟨v, ps, hr, hv⟩ := h1.lookup K.law ht hz (zd := .held z) (zp := []) rfl (K.of_ a ha)
  obtain ⟨h4, h5⟩ := h3 a
  rw [hr]
  congr 1
  simp only [valE, Option.some.injEq, Prod.mk.injEq] at hv
  cases hf : f a with
  | none =>
    rw [hf] at h4
    rw [Maps.atKey_of_not_has h4] at hv
    exact DataW.held.inj hv.1
  | some u =>
    rw [h5 _ u hf] at hv
    exact DataW.held.inj hv.1
/-- 'len(m)' -/
theorem MapIs.len (h : MapIs K w b f n) (ht : P.underlying t = some (.map k e)) (ty : TypeId) : (Builtin.len_ #[t] ty #[.map (some b)]).run P w = .ok (.int .i64 n) w := by
  obtain ⟨D, h1, h2, _⟩ := h.ex
  rw [h1.len ht ty, h2]
/-- 'm[k] = v' -/
theorem MapIs.store (h : MapIs K w b f n) (ht : P.underlying t = some (.map k e)) (a : α) (ha : K.ok a) (v : Value) (hn : n < maxLen) :
    ∃ w', (Instr.mapUpdate t (.map (some b)) (K.val a) v).run P w = .ok () w' ∧ MapIs K w' b (fun i => if i = a then some v else f i) (if (f a).isSome then n else n + 1) ∧ Keeps (fun k => k = b) w w' := by
  obtain ⟨D, h1, h2, h3⟩ := h.ex
  obtain ⟨w', hr, h4, h5⟩ := h1.store K.law ht hn (K.of_ a ha) (val := v) (d := .held v) (ps := []) rfl
  have hsz := Maps.size_put (k := K.lit a) (h1.tidy K.law) (.held v)
  rw [(h3 a).1, h2] at hsz
  refine ⟨w', hr, ⟨_, ?_, hsz, fun i => ?_⟩, ?_⟩
  · obtain ⟨es, clock, g1, g2, g3, g4⟩ := h4
    refine ⟨es, clock, g1, g2, ?_, g4⟩
    rw [← hsz, g4]
    simp [Maps.size, length_sorted]
  · by_cases hi : i = a
    · subst hi
      simp only [if_true, Option.isSome_some, Option.some.injEq, forall_eq']
      exact ⟨Maps.has_put_same h1.isMap (K.isKey i) _, fun z => Maps.atKey_put_same h1.isMap (K.isKey i) _ z⟩
    · have hne : K.lit i ≠ K.lit a := fun h => hi (K.inj i a h)
      simp only [hi, if_false]
      rw [Maps.has_put_other hne]
      exact ⟨(h3 i).1, fun z u hu => by rw [Maps.atKey_put_other hne]; exact (h3 i).2 z u hu⟩
  · have g := h5.grown
    exact (Keeps.refl _ w).grown g (fun k hk _ => (Option.some.inj hk).symm)
end
section
variable {P : Program} {ops : Array Oper} {rest : List Oper} {o : Oper} {a : Act} {Q : Exit → Act → World → Prop}
/-- 'm[k] = v', met by the walk. -/
theorem wp_mapUpd {k e t : TypeId} {α : Type} [DecidableEq α] {K : KeyI P k α} {w : World} {b n : Nat} {f : α → Option Value} (h : MapIs K w b f n) (ht : P.underlying t = some (.map k e)) (x : α) (hx : K.ok x) (v : Value) (hn : n < maxLen)
    (hgd : o.guard = none) (m p q : Operand) (ho : o.op = Op.mapUpdate t m p q) (hm : a.eval m = .map (some b)) (hp : a.eval p = K.val x) (hq : a.eval q = v)
    (hK : ∀ w', MapIs K w' b (fun i => if i = x then some v else f i) (if (f x).isSome then n else n + 1) → Keeps (fun k => k = b) w w' → wpList P ops Q rest (a.put o.dst undef) w') : wpList P ops Q (o :: rest) a w := by
  refine wpList_plain hgd fun K' hK' => ?_
  obtain ⟨w', hrun, r1, r2⟩ := h.store ht x hx v hn
  unfold Oper.wp
  simp [execOp, ho, hm, hp, hq, hrun, Result.andThen]
  exact hK' _ _ (hK w' r1 r2)
end
/-- Keys that are ints. -/
def keyInt {P : Program} {k : TypeId} (hk : P.underlying k = some (.int .i64)) : KeyI P k Int where
  law := Maps.int_keyed hk
  val n := .int .i64 n
  lit n := .int .i64 n
  ok n := -9223372036854775808 ≤ n ∧ n ≤ 9223372036854775807
  of_ n h := Maps.keyOf_int_mk hk (WalkArith.wf_i64 h)
  inj a b h := by cases h; rfl
  isKey a := by simp [WideAt.IsKeyLit]
end Go.Proofs.Ytbgkohfifcfofaa
