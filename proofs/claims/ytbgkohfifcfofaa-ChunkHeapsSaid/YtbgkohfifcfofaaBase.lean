/- The base of this seat's walks: frames, rows that are read, rows that are owned, appends. -/
import Derived.WalkKit
import Derived.WalkSpells
import Derived.Lib.Hide
import Derived.Lib.ConvBytes
import Derived.Lib.AppendStr
import Derived.Lib.SlBytesConst
import Derived.Lib.SmallJoins
import Derived.Deep.QuietTactic
import Derived.BigQuiet
import Derived.KernelRfl
import Derived.RowKit3
import Derived.Deep.LoopGhost
import Derived.Deep.DeepFit
import Derived.Deep.RegionHeld3
import Derived.Deep.DeepCutAuto
set_option linter.unusedVariables false
set_option linter.unusedSimpArgs false
open Go.RowKit
namespace Go.Proofs.Ytbgkohfifcfofaa

/-! ### frames -/
/-- All blocks that were there are as they were, but those in S. -/
structure Keeps (S : Nat → Prop) (w w' : World) : Prop where
  os : w'.os = w.os
  tape : w'.tape = w.tape
  output : w'.output = w.output
  size : w.heap.size ≤ w'.heap.size
  block : ∀ b, b < w.heap.size → ¬ S b → w'.heap[b]? = w.heap[b]?
def NoB : Nat → Prop := fun _ => False
theorem Keeps.refl (S : Nat → Prop) (w : World) : Keeps S w w := ⟨rfl, rfl, rfl, Nat.le_refl _, fun _ _ _ => rfl⟩
theorem Keeps.of_below {w w' : World} (h : Below w.heap.size w w') (S : Nat → Prop) : Keeps S w w' :=
  ⟨h.os, h.tape, h.output, h.size, fun b hb _ => h.block b hb⟩
theorem Keeps.below {w w' : World} (h : Keeps NoB w w') : Below w.heap.size w w' :=
  ⟨h.os, h.tape, h.output, h.size, fun b hb => h.block b hb (fun h => h)⟩
theorem Keeps.belowB {w w' : World} {S : Nat → Prop} {B : Nat} (h : Keeps S w w') (hB : B ≤ w.heap.size) (hS : ∀ b, b < B → ¬ S b) : Below B w w' :=
  ⟨h.os, h.tape, h.output, h.size, fun b hb => h.block b (by omega) (hS b hb)⟩
/-- Two frames; what the second may touch is new, or in S. -/
theorem Keeps.trans {S T : Nat → Prop} {w w1 w2 : World} (h : Keeps S w w1) (k : Keeps T w1 w2) (hT : ∀ b, b < w.heap.size → T b → S b) : Keeps S w w2 :=
  ⟨k.os.trans h.os, k.tape.trans h.tape, k.output.trans h.output, Nat.le_trans h.size k.size,
   fun b hb hn => (k.block b (Nat.lt_of_lt_of_le hb h.size) (fun ht => hn (hT b hb ht))).trans (h.block b hb hn)⟩
theorem Keeps.mono {S T : Nat → Prop} {w w1 : World} (h : Keeps S w w1) (hT : ∀ b, b < w.heap.size → S b → T b) : Keeps T w w1 :=
  ⟨h.os, h.tape, h.output, h.size, fun b hb hn => h.block b hb (fun hs => hn (hT b hb hs))⟩
theorem Keeps.alloc {S : Nat → Prop} {w w1 : World} (h : Keeps S w w1) (o : Obj) : Keeps S w (w1.alloc o) :=
  h.trans (Keeps.of_below ((Below.refl _ _).alloc (Nat.le_refl _) o) S) (fun _ _ h => h)
theorem Keeps.drew {S : Nat → Prop} {w w1 : World} (h : Keeps S w w1) : Keeps S w w1.drew := ⟨h.os, h.tape, h.output, h.size, h.block⟩
theorem Keeps.drewN {S : Nat → Prop} {w w1 : World} (h : Keeps S w w1) (n : Nat) : Keeps S w (w1.drewN n) := ⟨h.os, h.tape, h.output, h.size, h.block⟩
theorem Keeps.setCell {S : Nat → Prop} {w w1 : World} (h : Keeps S w w1) {a : Addr} (ha : a.block < w.heap.size → S a.block) (u : Value) : Keeps S w (w1.setCell a u) :=
  h.trans (T := fun b => b = a.block) ⟨rfl, rfl, rfl, by simp [World.setCell], fun b _ hn => Below.heap_setCell _ _ _ _ hn⟩ (fun b hb e => by subst e; exact ha hb)
theorem Keeps.grown {S : Nat → Prop} {w w1 w2 : World} (h : Keeps S w w1) {row : Option Nat} (hg : w1.grownBy w2 row) (hr : ∀ k, row = some k → k < w.heap.size → S k) : Keeps S w w2 :=
  h.trans (T := fun b => row = some b) ⟨hg.os, hg.tape, hg.output, hg.size, fun b hb hn => hg.block b hb (fun e => hn e.symm)⟩ (fun b hb e => hr b e hb)
theorem Keeps.cell {S : Nat → Prop} {w w1 : World} (h : Keeps S w w1) {a : Addr} {v : Value} (hc : w.cell? a = some v) (hn : ¬ S a.block) : w1.cell? a = some v :=
  (World.cell?_of_block (w := w) (h.block a.block (World.block_lt_of_cell? w a hc) hn)).trans hc
theorem Keeps.get {S : Nat → Prop} {w w1 : World} (h : Keeps S w w1) {b : Nat} {o : Obj} (hc : w.heap[b]? = some o) (hn : ¬ S b) : w1.heap[b]? = some o :=
  (h.block b (Array.getElem?_eq_some_iff.1 hc).1 hn).trans hc
theorem Below.drewN {B : Nat} {w w1 : World} (h : Below B w w1) (n : Nat) : Below B w (w1.drewN n) := ⟨h.os, h.tape, h.output, h.size, h.block⟩
/-- Behind a second frame, at its own size. -/
theorem Below.then {B : Nat} {w w1 w2 : World} (h : Below B w w1) (k : Below w1.heap.size w1 w2) (hB : B ≤ w1.heap.size) : Below B w w2 := h.trans (k.mono hB)
theorem Below.step {w w1 w2 : World} (h : Below w.heap.size w w1) (k : Below w1.heap.size w1 w2) : Below w.heap.size w w2 := h.trans (k.mono h.size)
theorem lt_of_get {w : World} {b : Nat} {o : Obj} (hc : w.heap[b]? = some o) : b < w.heap.size := (Array.getElem?_eq_some_iff.1 hc).1
theorem cell_of_get {w : World} {b o : Nat} {cs : Array Value} {t : TypeId} {fr : Nat × Nat} {v : Value} (hb : w.heap[b]? = some (.cells cs t fr)) (hv : cs[o]? = some v) : w.cell? ⟨b, o, none⟩ = some v := by
  simp [World.cell?, hb, hv]
theorem free_of_get {w : World} {b o : Nat} {cs : Array Value} {t : TypeId} (hb : w.heap[b]? = some (.cells cs t (0, 0))) : w.frozen? ⟨b, o, none⟩ = false := by
  simp [World.frozen?, hb]
theorem get_setCell {w : World} {b o : Nat} {cs : Array Value} {t : TypeId} {fr : Nat × Nat} (hb : w.heap[b]? = some (.cells cs t fr)) (v : Value) :
    (w.setCell ⟨b, o, none⟩ v).heap[b]? = some (.cells (cs.setIfInBounds o v) t fr) := by
  simp only [World.setCell, Array.getElem?_modify, if_true, hb]
  rfl

/-! ### rows that are read -/
def encB (b : UInt8) : Value := .int .u8 (b.toNat : Int)
def encI (n : Int) : Value := .int .i64 n
def encS (l : List UInt8) : Value := .string ⟨l.toArray⟩
/-- v is a slice that reads as xs, out of blocks in F. -/
def Row {α : Type} (enc : α → Value) (w : World) (F : Nat → Prop) (v : Value) (xs : List α) : Prop :=
  ∃ A c, v = .slice A xs.length c ∧ xs.length ≤ c ∧ c ≤ maxLen ∧ (xs = [] ∨ ∃ b o, A = some ⟨b, o, none⟩ ∧ F b ∧ ∀ j x, xs[j]? = some x → w.cell? ⟨b, o + j, none⟩ = some (enc x))
section
variable {α : Type} {enc : α → Value} {w w1 : World} {F G S : Nat → Prop} {v : Value} {xs : List α}
theorem Row.nil (enc : α → Value) (w : World) (F : Nat → Prop) : Row enc w F (.slice none 0 0) [] := ⟨none, 0, rfl, Nat.le_refl _, by simp [maxLen], .inl rfl⟩
theorem Row.mono (h : Row enc w F v xs) (hf : ∀ b, F b → G b) : Row enc w G v xs := by
  obtain ⟨A, c, rfl, h1, h2, h3⟩ := h
  refine ⟨A, c, rfl, h1, h2, h3.imp id ?_⟩
  rintro ⟨b, o, h, hb, hc⟩
  exact ⟨b, o, h, hf b hb, hc⟩
/-- The footprint, at a world's size at most. -/
theorem Row.inside (h : Row enc w F v xs) : Row enc w (fun b => F b ∧ b < w.heap.size) v xs := by
  obtain ⟨A, c, rfl, h1, h2, h3⟩ := h
  refine ⟨A, c, rfl, h1, h2, ?_⟩
  rcases h3 with h3 | ⟨b, o, h, hb, hc⟩
  · exact .inl h3
  · cases xs with
    | nil => exact .inl rfl
    | cons x l => exact .inr ⟨b, o, h, ⟨hb, World.block_lt_of_cell? _ ⟨b, o + 0, none⟩ (hc 0 x rfl)⟩, hc⟩
theorem Row.keep (h : Row enc w F v xs) (hk : Keeps S w w1) (hs : ∀ b, F b → ¬ S b) : Row enc w1 F v xs := by
  obtain ⟨A, c, rfl, h1, h2, h3⟩ := h
  refine ⟨A, c, rfl, h1, h2, h3.imp id ?_⟩
  rintro ⟨b, o, h, hb, hc⟩
  exact ⟨b, o, h, hb, fun j x hx => hk.cell (hc j x hx) (hs b hb)⟩
theorem Row.below (h : Row enc w F v xs) (hk : Below w.heap.size w w1) : Row enc w1 F v xs := h.keep (Keeps.of_below hk NoB) (fun _ _ h => h)
theorem Row.belowB {B : Nat} (h : Row enc w F v xs) (hk : Below B w w1) (hs : ∀ b, F b → b < B) : Row enc w1 F v xs := by
  obtain ⟨A, c, rfl, h1, h2, h3⟩ := h
  refine ⟨A, c, rfl, h1, h2, h3.imp id ?_⟩
  rintro ⟨b, o, h, hb, hc⟩
  exact ⟨b, o, h, hb, fun j x hx => (hk.cell (p := ⟨b, o + j, none⟩) (hs b hb)).trans (hc j x hx)⟩
theorem Row.shape (h : Row enc w F v xs) : ∃ A c, v = .slice A xs.length c ∧ xs.length ≤ c ∧ c ≤ maxLen := by
  obtain ⟨A, c, h, h1, h2, _⟩ := h
  exact ⟨A, c, h, h1, h2⟩
/-- Its shape alone: for a store of what is known by its reading. -/
theorem Row.shp (h : Row enc w F v xs) : ∃ A n c, v = .slice A n c := by
  obtain ⟨A, c, h, _⟩ := h
  exact ⟨A, _, c, h⟩
/-- One element's cell. -/
theorem Row.at {A : Option Addr} {c n : Nat} (h : Row enc w F (.slice A n c) xs) {k : Nat} {x : α} (hx : xs[k]? = some x) :
    ∃ b o, A = some ⟨b, o, none⟩ ∧ F b ∧ w.cell? ⟨b, o + k, none⟩ = some (enc x) := by
  obtain ⟨A', c', he, h1, h2, h3⟩ := h
  cases he
  rcases h3 with rfl | ⟨b, o, h, hb, hc⟩
  · simp at hx
  · exact ⟨b, o, h, hb, hc k x hx⟩
theorem Row.len {A : Option Addr} {c n : Nat} (h : Row enc w F (.slice A n c) xs) : n = xs.length ∧ n ≤ c ∧ c ≤ maxLen := by
  obtain ⟨A', c', he, h1, h2, h3⟩ := h
  cases he
  exact ⟨rfl, h1, h2⟩
theorem Row.take {A : Option Addr} {c n : Nat} (h : Row enc w F (.slice A n c) xs) (k : Nat) (hk : k ≤ n) : Row enc w F (.slice A k c) (xs.take k) := by
  obtain ⟨A', c', he, h1, h2, h3⟩ := h
  cases he
  have hl : (xs.take k).length = k := by rw [List.length_take]; omega
  refine ⟨A, c, by rw [hl], by omega, h2, ?_⟩
  rcases h3 with rfl | ⟨b, o, h, hb, hc⟩
  · exact .inl (by simp)
  · refine .inr ⟨b, o, h, hb, fun j x hx => hc j x ?_⟩
    rw [List.getElem?_take] at hx
    split at hx
    · exact hx
    · cases hx
/-- 's[:len(s):len(s)]' -/
theorem Row.clip {A : Option Addr} {c n : Nat} (h : Row enc w F (.slice A n c) xs) : Row enc w F (.slice A n n) xs := by
  obtain ⟨A', c', he, h1, h2, h3⟩ := h
  cases he
  exact ⟨A, xs.length, rfl, Nat.le_refl _, by omega, h3⟩
/-- 's[k:]', as the walk leaves it. -/
theorem Row.drop {A : Option Addr} {c n : Nat} (h : Row enc w F (.slice A n c) xs) (k : Nat) (hk : k ≤ n) : Row enc w F (.slice (if c = k then A else A.map (fun x => x.add k)) (n - k) (c - k)) (xs.drop k) := by
  obtain ⟨A', c', he, h1, h2, h3⟩ := h
  cases he
  have hl : (xs.drop k).length = xs.length - k := List.length_drop
  refine ⟨_, c - k, by rw [hl], by omega, by omega, ?_⟩
  by_cases hd : xs.drop k = []
  · exact .inl hd
  · have hlt : k < xs.length := by
      rcases Nat.lt_or_ge k xs.length with h | h
      · exact h
      · exact absurd (List.drop_eq_nil_of_le h) hd
    rcases h3 with rfl | ⟨b, o, rfl, hb, hc⟩
    · simp at hlt
    · refine .inr ⟨b, o + k, ?_, hb, fun j x hx => ?_⟩
      · rw [if_neg (by omega)]
        simp only [Option.map_some, Addr.add]
        split
        · rename_i h0; subst h0; rfl
        · rfl
      · rw [List.getElem?_drop] at hx
        have := hc (k + j) x hx
        rwa [← Nat.add_assoc] at this
end

/-! ### rows that are owned -/
/-- v is nil and xs empty, or the head of a block from base on, of element type e, not shared. -/
def Own {α : Type} (enc : α → Value) (e : TypeId) (w : World) (base : Nat) (v : Value) (xs : List α) : Prop := w.ownsRow base e 1 v xs.length (xs.map enc)
section
variable {α : Type} {enc : α → Value} {w w1 : World} {F G S : Nat → Prop} {v : Value} {xs : List α} {e : TypeId} {base : Nat}
theorem Own.nil (enc : α → Value) (e : TypeId) (w : World) (base : Nat) : Own enc e w base (.slice none 0 0) [] := World.ownsRow_nil w base e 1
theorem Own.empty (enc : α → Value) (e : TypeId) (w : World) (base : Nat) (hb : base ≤ w.heap.size) : Own enc e (w.alloc (.cells #[] e)) base (.slice (some ⟨w.heap.size, 0, none⟩) 0 0) [] :=
  World.ownsRow_made w #[] 0 hb (by simp [maxLen]) (by simp)
theorem Own.row (h : Own enc e w base v xs) : Row enc w (fun b => base ≤ b) v xs := by
  have hl := h.1
  rcases h.2 with ⟨rfl, hn⟩ | ⟨g, cap, cur, rfl, hb, hg, h1, h2, h3, h4⟩
  · obtain rfl : xs = [] := List.eq_nil_of_length_eq_zero hn
    exact Row.nil enc w _
  · refine ⟨_, cap, rfl, h1, h2, .inr ⟨g, 0, rfl, hb, fun j x hx => ?_⟩⟩
    have := World.ownsRow.cells (w := w) (g := g) h rfl j (enc x) (by rw [List.getElem?_map, hx]; rfl)
    have ha : (⟨g, 0, none⟩ : Addr).add j = ⟨g, 0 + j, none⟩ := by unfold Addr.add; split <;> simp_all
    rwa [ha] at this
theorem Own.keep (h : Own enc e w base v xs) (hk : Keeps S w w1) (hs : ∀ b, v.ownBlock = some b → ¬ S b) : Own enc e w1 base v xs := by
  refine ⟨h.1, ?_⟩
  rcases h.2 with h2 | ⟨g, cap, cur, rfl, hb, hg, r⟩
  · exact .inl h2
  · exact .inr ⟨g, cap, cur, rfl, hb, hk.get hg (hs g rfl), r⟩
theorem Own.below (h : Own enc e w base v xs) (hk : Below w.heap.size w w1) : Own enc e w1 base v xs := h.keep (Keeps.of_below hk NoB) (fun _ _ h => h)
theorem Own.base_ {b' : Nat} (h : Own enc e w base v xs) (hb : b' ≤ base) : Own enc e w b' v xs := by
  refine ⟨h.1, ?_⟩
  rcases h.2 with h2 | ⟨g, cap, cur, rfl, hg, r⟩
  · exact .inl h2
  · exact .inr ⟨g, cap, cur, rfl, by omega, r⟩
theorem Own.lt (h : Own enc e w base v xs) : ∀ b, v.ownBlock = some b → base ≤ b ∧ b < w.heap.size := World.ownsRow.lt h
end

/-! ### append -/
/-- What append takes as its second operand, and the cells that it brings. -/
inductive Src (w : World) (size : Nat) : Value → Nat → List Value → Prop
  | nil (c : Nat) : Src w size (.slice none 0 c) 0 []
  | row (a : Addr) (m c : Nat) (news : List Value) (hl : news.length = m * size) (h : ∀ j u, news[j]? = some u → w.cell? (a.add j) = some u) : Src w size (.slice (some a) m c) m news
  | str (s : ByteArray) (hs : size = 1) : Src w size (.string s) s.size (s.data.toList.map encB)
theorem add_plain (b o j : Nat) : (⟨b, o, none⟩ : Addr).add j = ⟨b, o + j, none⟩ := by unfold Addr.add; split <;> simp_all
theorem Row.src {α : Type} {enc : α → Value} {w : World} {F : Nat → Prop} {v : Value} {xs : List α} (h : Row enc w F v xs) : Src w 1 v xs.length (xs.map enc) := by
  obtain ⟨A, c, rfl, h1, h2, h3⟩ := h
  rcases h3 with rfl | ⟨b, o, rfl, hb, hc⟩
  · cases A with
    | none => exact .nil c
    | some a => exact .row a 0 c [] rfl (fun j u h => by simp at h)
  · refine .row _ _ _ _ (by simp) (fun j u hu => ?_)
    rw [List.getElem?_map] at hu
    obtain ⟨x, hx, rfl⟩ := Option.map_eq_some_iff.1 hu
    rw [add_plain]
    exact hc j x hx
/-- The box of a variadic call: one new block. -/
theorem Src.lit (w : World) (size : Nat) (cs : Array Value) (e : TypeId) (m c : Nat) (hl : cs.size = m * size) : Src (w.alloc (.cells cs e)) size (.slice (some ⟨w.heap.size, 0, none⟩) m c) m cs.toList := by
  refine .row _ _ _ _ (by simpa using hl) (fun j u hu => ?_)
  rw [add_plain, Nat.zero_add]
  exact cell_of_get (heap_alloc_new w _) (by simpa using hu)
theorem Src.len {w : World} {size m : Nat} {u : Value} {news : List Value} (h : Src w size u m news) : news.length = m * size := by
  cases h with
  | nil c => simp
  | row a m c news hl h => exact hl
  | str s hs => subst hs; simp
theorem Src.drew {w : World} {size m : Nat} {u : Value} {news : List Value} (h : Src w size u m news) : Src w.drew size u m news := by
  cases h with
  | nil c => exact .nil c
  | row a m c news hl h => exact .row a m c news hl h
  | str s hs => exact .str s hs
section
variable {P : Program}
theorem Src.lenOf {w : World} {size m : Nat} {u : Value} {news : List Value} (h : Src w size u m news) (W : World) : (Builtin.lenOf u).run P W = .ok m W := by
  cases h <;> simp [Builtin.lenOf]
theorem Src.first {w : World} {size m : Nat} {u : Value} {news : List Value} (h : Src w size u m news) : (Builtin.firstCells size m u).run P w = .ok news.toArray w := by
  cases h with
  | nil c => simp [Builtin.firstCells]
  | row a m c news hl h => exact run_firstCells_some (P := P) w size m a m c news hl h
  | str s hs => exact Lib.run_firstCells_string (P := P) w size s
/-- append where there is no room: a new row. -/
theorem run_app_grow (w : World) (base : Nat) (t t2 ty e : TypeId) (i : TypeInfo) (z : Value) (size bytes : Nat) (ht : P.underlying t = some (.slice e)) (d2 : TypeDesc) (ht2 : P.underlying t2 = some d2) (hd2 : ∀ k, d2 ≠ .int k) (hi : P.info? e = some i) (hz : i.zero = some z)
    (hsize : i.size = size) (hby : i.bytes = bytes) (hzs : z.cells.size = size) (hsz : 0 < size) (hb0 : 0 < bytes)
    (B : Option Addr) (n cap : Nat) (xs : List Value) (hv : Src w size (.slice B n cap) n xs)
    (u : Value) (m : Nat) (news : List Value) (hu : Src w size u m news) (hg : cap < n + m)
    (hbytes : (n + m) * bytes ≤ 140737488355328) (hbase : base ≤ w.heap.size) :
    ∃ v' w', (Builtin.append_ #[t, t2] ty #[.slice B n cap, u]).run P w = .ok v' w' ∧ w'.ownsRow base e size v' (n + m) (xs ++ news) ∧ Below w.heap.size w w' ∧ v'.ownBlock = some w.heap.size ∧ w'.heap.size = w.heap.size + 1 := by
  have hle : n + m ≤ 140737488355328 := Nat.le_trans (Nat.le_mul_of_pos_right _ hb0) hbytes
  have hn : ¬ (n + m ≤ cap) := by omega
  have h48' : ¬ (281474976710656 < Builtin.nextslicecap (n + m) cap * i.bytes) := by
    have := growslice_fits (need := n + m) (old := cap) (bytes := bytes) (by omega) hbytes
    rw [hby]; omega
  have hf := hu.drew.first (P := P)
  have hfo := hv.drew.first (P := P)
  have hln := hu.lenOf (P := P)
  have hzero : (match d2 with | .int _ => true | _ => false) = false := by
    cases d2 <;> first | rfl | exact absurd rfl (hd2 _)
  have hrun : (Builtin.append_ #[t, t2] ty #[.slice B n cap, u]).run P w =
      .ok (.slice (some ⟨w.heap.size, 0, none⟩) (n + m) (grownCap w (n + m) cap e)) (w.drew.alloc (.cells (xs.toArray ++ news.toArray ++ Builtin.zeroCells z.cells (grownCap w (n + m) cap e - (n + m))) e)) := by
    have hb' : ¬ i.bytes = 0 := by omega
    simp [Builtin.append_, run_underlying ht, run_underlying ht2, hzero, sizeOf, typeInfo, zeroValue, hi, hz, hln, hsize, hn, h48', hb', Question.forced, hf, hfo, newRow, grownCap]
    congr 2
    apply Array.ext'
    simp [List.append_assoc]
  have hlen : (xs ++ news).length = (n + m) * size := by rw [List.length_append, hv.len, hu.len, Nat.add_mul]
  have hge := grownCap_ge w (n + m) cap e
  have hcm : grownCap w (n + m) cap e ≤ maxLen := grownCap_le_maxLen w (n + m) cap e (by simp only [maxLen]; omega)
  refine ⟨_, _, hrun, ⟨hlen, .inr ⟨w.heap.size, _, _, rfl, hbase, heap_alloc_new w.drew _, hge, hcm, ?_, ?_⟩⟩, (Below.refl _ w).drew.alloc (Nat.le_refl _) _, rfl, by simp⟩
  · simp only [Array.size_append, List.size_toArray, size_zeroCells, hzs, hv.len, hu.len, ← Nat.add_mul]
    congr 1
    omega
  · simp only [Array.toList_append, List.append_assoc]
    rw [← List.append_assoc, ← hlen]
    exact List.take_left
/-- append onto a row of one's own. -/
theorem run_app_own (w : World) (base : Nat) (t t2 ty e : TypeId) (i : TypeInfo) (z : Value) (size bytes : Nat) (ht : P.underlying t = some (.slice e)) (d2 : TypeDesc) (ht2 : P.underlying t2 = some d2) (hd2 : ∀ k, d2 ≠ .int k) (hi : P.info? e = some i) (hz : i.zero = some z)
    (hsize : i.size = size) (hby : i.bytes = bytes) (hzs : z.cells.size = size) (hsz : 0 < size) (hb0 : 0 < bytes)
    (v : Value) (n : Nat) (xs : List Value) (hown : w.ownsRow base e size v n xs)
    (u : Value) (m : Nat) (news : List Value) (hu : Src w size u m news) (h1 : ∀ u ∈ news, u.oneCell' = true)
    (hbytes : (n + m) * bytes ≤ 140737488355328) (hbase : base ≤ w.heap.size) :
    ∃ v' w', (Builtin.append_ #[t, t2] ty #[v, u]).run P w = .ok v' w' ∧ w'.ownsRow base e size v' (n + m) (xs ++ news) ∧ w.grownBy w' v.ownBlock ∧ (v'.ownBlock = v.ownBlock ∨ v'.ownBlock = some w.heap.size) := by
  have hln := hu.lenOf (P := P)
  have hzero : ∀ d2 : TypeDesc, (∀ k, d2 ≠ .int k) → (match d2 with | .int _ => true | _ => false) = false := by
    intro d2 hd2
    cases d2 <;> first | rfl | exact absurd rfl (hd2 _)
  have hzero := hzero d2 hd2
  have hlen : (xs ++ news).length = (n + m) * size := by rw [List.length_append, hown.1, hu.len, Nat.add_mul]
  rcases hown.2 with ⟨rfl, rfl⟩ | ⟨g, cap, cur, rfl, hbg, hgg, hnc, hcm, hcs, htake⟩
  · have hx : xs = [] := List.eq_nil_of_length_eq_zero (by simpa using hown.1)
    subst hx
    by_cases hm : m = 0
    · subst hm
      have hnw : news = [] := List.eq_nil_of_length_eq_zero (by simpa using hu.len)
      subst hnw
      have hf := hu.first (P := P)
      refine ⟨.slice none 0 0, w, ?_, World.ownsRow_nil w base e size, ⟨rfl, rfl, rfl, Nat.le_refl _, fun _ _ _ => rfl⟩, Or.inl rfl⟩
      simp [Builtin.append_, run_underlying ht, run_underlying ht2, hzero, sizeOf, typeInfo, hi, hln, hsize, hf]
    · obtain ⟨v', w', hr, h2, h3, h4, _⟩ := run_app_grow w base t t2 ty e i z size bytes ht d2 ht2 hd2 hi hz hsize hby hzs hsz hb0 none 0 0 [] (.nil 0) u m news hu (by omega) hbytes hbase
      exact ⟨v', w', hr, h2, ⟨h3.os, h3.tape, h3.output, h3.size, fun k hk _ => h3.block k hk⟩, Or.inr h4⟩
  · by_cases hroom : n + m ≤ cap
    · have hfit : n * size + news.length ≤ cur.size := by rw [hu.len, hcs, ← Nat.add_mul]; exact Nat.mul_le_mul_right _ hroom
      have hst := run_storeCells_at P g (n * size) e news 0 cur w hgg (by simpa using hfit) h1
      have hf := hu.first (P := P)
      simp only [Nat.add_zero] at hst
      refine ⟨_, _, by simp [Builtin.append_, run_underlying ht, run_underlying ht2, hzero, sizeOf, typeInfo, hi, hln, hsize, hf, hroom, Addr.add_lit, hst]; rfl, ⟨hlen, .inr ⟨g, cap, _, rfl, hbg, setRow_heap w g cur _ e _ hgg, hroom, hcm, ?_, ?_⟩⟩, ⟨rfl, rfl, rfl, by simp, fun k _ hk => setRow_other w g k _ (fun e => hk (by simp [Value.ownBlock, e]))⟩, Or.inl rfl⟩
      · simp only [List.size_toArray, List.length_append, List.length_take, List.length_drop, Array.length_toList]
        omega
      · rw [htake, ← hlen]
        simp only [List.append_assoc]
        rw [← List.append_assoc]
        exact List.take_left
    · have holds : ∀ j u, xs[j]? = some u → w.cell? ((⟨g, 0, none⟩ : Addr).add j) = some u := hown.cells (g := g) rfl
      obtain ⟨v', w', hr, h2, h3, h4, _⟩ := run_app_grow w base t t2 ty e i z size bytes ht d2 ht2 hd2 hi hz hsize hby hzs hsz hb0 (some ⟨g, 0, none⟩) n cap xs (.row _ _ _ _ hown.1 holds) u m news hu (by omega) hbytes hbase
      exact ⟨v', w', hr, h2, ⟨h3.os, h3.tape, h3.output, h3.size, fun k hk _ => h3.block k hk⟩, Or.inr h4⟩
end
section
variable {P : Program} {ops : Array Oper} {rest : List Oper} {o : Oper} {a : Act} {Q : Exit → Act → World → Prop}
/-- A builtin's run, met by the walk. -/
theorem wp_append (w : World) (hgd : o.guard = none) (s x : Operand) (t t2 : TypeId)
    (ho : o.op = .call { callee := .builtin .append, args := #[s, x], argTypes := #[t, t2] }) (v u : Value) (hs : a.eval s = v) (hx : a.eval x = u)
    (R : Value → World → Prop) (hr : ∃ v' w', (Builtin.append_ #[t, t2] o.type #[v, u]).run P w = .ok v' w' ∧ R v' w')
    (h : ∀ v' w', R v' w' → wpList P ops Q rest (a.put o.dst v') w') : wpList P ops Q (o :: rest) a w := by
  refine wpList_plain hgd fun K hK => ?_
  obtain ⟨v', w', hr, h2⟩ := hr
  unfold Oper.wp execOp
  simp only [ho, resolve, invoke, builtin, Sem.run_bind, Sem.run_pure, Result.andThen_ok, List.map_toArray, List.map_cons, List.map_nil, hs, hx, hr]
  exact hK _ _ (h v' w' h2)
end
/-- What append leaves: a row of one's own; only v's own row was written. -/
structure App {α : Type} (enc : α → Value) (e : TypeId) (base : Nat) (w : World) (v : Value) (ys : List α) (v' : Value) (w' : World) : Prop where
  own : Own enc e w' base v' ys
  keep : Keeps (fun b => v.ownBlock = some b) w w'
  blk : v'.ownBlock = v.ownBlock ∨ v'.ownBlock = some w.heap.size
section
variable {P : Program}
/-- The type's row of the table, for an element of one cell. -/
structure El (P : Program) (t e : TypeId) (z : Value) (bytes : Nat) : Prop where
  t : P.underlying t = some (.slice e)
  info : (P.info? e).map (fun i => (i.zero, i.size, i.bytes)) = some (some z, 1, bytes)
  z : z.cells.size = 1
  pos : 0 < bytes
theorem app_own {α : Type} {enc : α → Value} (h1 : ∀ x, (enc x).oneCell' = true) {t e : TypeId} {z : Value} {bytes : Nat} (E : El P t e z bytes) {t2 : TypeId} {d2 : TypeDesc} (ht2 : P.underlying t2 = some d2) (hd2 : ∀ k, d2 ≠ .int k)
    (w : World) (base : Nat) (ty : TypeId) {v : Value} {xs : List α} (hv : Own enc e w base v xs) {u : Value} {ys : List α} (hu : Src w 1 u ys.length (ys.map enc))
    (hbytes : (xs.length + ys.length) * bytes ≤ 140737488355328) (hbase : base ≤ w.heap.size) :
    ∃ v' w', (Builtin.append_ #[t, t2] ty #[v, u]).run P w = .ok v' w' ∧ App enc e base w v (xs ++ ys) v' w' := by
  obtain ⟨i, hi, hzz⟩ := Option.map_eq_some_iff.1 E.info
  simp only [Prod.mk.injEq] at hzz
  obtain ⟨hz0, hz1, hz2⟩ := hzz
  obtain ⟨v', w', hr, h2, h3, h4⟩ := run_app_own (P := P) w base t t2 ty e i z 1 bytes E.t d2 ht2 hd2 hi hz0 hz1 hz2 E.z (by omega) E.pos v xs.length (xs.map enc) hv u ys.length (ys.map enc) hu
    (by intro q hq; obtain ⟨y, _, rfl⟩ := List.mem_map.1 hq; exact h1 y) hbytes hbase
  exact ⟨v', w', hr, by unfold Own; simpa using h2, (Keeps.refl _ w).grown h3 (fun k hk _ => hk), h4⟩
/-- append onto what is full: a new row. -/
theorem app_full {α : Type} {enc : α → Value} {t e : TypeId} {z : Value} {bytes : Nat} (E : El P t e z bytes) {t2 : TypeId} {d2 : TypeDesc} (ht2 : P.underlying t2 = some d2) (hd2 : ∀ k, d2 ≠ .int k)
    (w : World) (base : Nat) (ty : TypeId) {A : Option Addr} {n : Nat} {F : Nat → Prop} {xs : List α} (hv : Row enc w F (.slice A n n) xs) {u : Value} {ys : List α} (hu : Src w 1 u ys.length (ys.map enc)) (hy : 0 < ys.length)
    (hbytes : (xs.length + ys.length) * bytes ≤ 140737488355328) (hbase : base ≤ w.heap.size) :
    ∃ v' w', (Builtin.append_ #[t, t2] ty #[.slice A n n, u]).run P w = .ok v' w' ∧ App enc e base w (.slice none 0 0) (xs ++ ys) v' w' := by
  obtain ⟨i, hi, hzz⟩ := Option.map_eq_some_iff.1 E.info
  simp only [Prod.mk.injEq] at hzz
  obtain ⟨hz0, hz1, hz2⟩ := hzz
  obtain ⟨hn, _, _⟩ := hv.len
  subst hn
  obtain ⟨v', w', hr, h2, h3, h4, _⟩ := run_app_grow (P := P) w base t t2 ty e i z 1 bytes E.t d2 ht2 hd2 hi hz0 hz1 hz2 E.z (by omega) E.pos A xs.length xs.length (xs.map enc) hv.src u ys.length (ys.map enc) hu (by omega) hbytes hbase
  exact ⟨v', w', hr, by unfold Own; simpa using h2, Keeps.of_below h3 _, Or.inr h4⟩
end
section
variable {P : Program} {ops : Array Oper} {rest : List Oper} {o : Oper} {a : Act} {Q : Exit → Act → World → Prop}
/-- 'append(v, u..)' onto a row of one's own, met by the walk. -/
theorem wp_app_own {α : Type} {enc : α → Value} {t e : TypeId} {z : Value} {bytes : Nat} {t2 : TypeId} {d2 : TypeDesc} {base : Nat} {v : Value} {xs : List α} {u : Value} {ys : List α} {w : World}
    (h1 : ∀ x, (enc x).oneCell' = true) (E : El P t e z bytes) (ht2 : P.underlying t2 = some d2) (hd2 : ∀ k, d2 ≠ .int k)
    (hv : Own enc e w base v xs) (hu : Src w 1 u ys.length (ys.map enc)) (hbytes : (xs.length + ys.length) * bytes ≤ 140737488355328) (hbase : base ≤ w.heap.size)
    (hgd : o.guard = none) (s x : Operand) (ho : o.op = .call { callee := .builtin .append, args := #[s, x], argTypes := #[t, t2] }) (hs : a.eval s = v) (hx : a.eval x = u)
    (h : ∀ v' w', App enc e base w v (xs ++ ys) v' w' → wpList P ops Q rest (a.put o.dst v') w') : wpList P ops Q (o :: rest) a w :=
  wp_append w hgd s x t t2 ho v u hs hx _ (app_own h1 E ht2 hd2 w base o.type hv hu hbytes hbase) h
theorem wp_app_full {α : Type} {enc : α → Value} {t e : TypeId} {z : Value} {bytes : Nat} {t2 : TypeId} {d2 : TypeDesc} {base : Nat} {A : Option Addr} {n : Nat} {F : Nat → Prop} {xs : List α} {u : Value} {ys : List α} {w : World}
    (E : El P t e z bytes) (ht2 : P.underlying t2 = some d2) (hd2 : ∀ k, d2 ≠ .int k)
    (hv : Row enc w F (.slice A n n) xs) (hu : Src w 1 u ys.length (ys.map enc)) (hy : 0 < ys.length) (hbytes : (xs.length + ys.length) * bytes ≤ 140737488355328) (hbase : base ≤ w.heap.size)
    (hgd : o.guard = none) (s x : Operand) (ho : o.op = .call { callee := .builtin .append, args := #[s, x], argTypes := #[t, t2] }) (hs : a.eval s = .slice A n n) (hx : a.eval x = u)
    (h : ∀ v' w', App enc e base w (.slice none 0 0) (xs ++ ys) v' w' → wpList P ops Q rest (a.put o.dst v') w') : wpList P ops Q (o :: rest) a w :=
  wp_append w hgd s x t t2 ho _ u hs hx _ (app_full E ht2 hd2 w base o.type hv hu hy hbytes hbase) h
end
/-- A literal's row. -/
theorem row_lit {α : Type} (enc : α → Value) (w : World) (e : TypeId) (fr : Nat × Nat) (xs : List α) (hl : xs.length ≤ 1000000) (n : Nat) (hn : n = xs.length) (cs : Array Value) (hcs : cs = (xs.map enc).toArray) :
    Row enc (w.alloc (.cells cs e fr)) (fun b => w.heap.size ≤ b) (.slice (some ⟨w.heap.size, 0, none⟩) n n) xs := by
  subst hn hcs
  refine ⟨_, _, rfl, Nat.le_refl _, by simp only [maxLen]; omega, .inr ⟨w.heap.size, 0, rfl, Nat.le_refl _, fun j x hx => ?_⟩⟩
  exact cell_of_get (heap_alloc_new w _) (by simp [hx])
/-- 'string(b)' -/
theorem Row.str {P : Program} {w : World} {F : Nat → Prop} {v : Value} {xs : List UInt8} {src dst e : TypeId} (h : Row encB w F v xs) (hs : P.underlying src = some (.slice e)) (he : P.underlying e = some (.int .u8)) (hd : P.underlying dst = some .string) :
    (convert src dst v).run P w = .ok (.string ⟨xs.toArray⟩) w := by
  obtain ⟨A, c, rfl, h1, h2, h3⟩ := h
  cases A with
  | none =>
    obtain rfl : xs = [] := by
      rcases h3 with h | ⟨b, o, h, _⟩
      · exact h
      · cases h
    exact run_convert_bytes_nil w src e hs he _ c dst hd
  | some a =>
    by_cases hx : xs = []
    · subst hx
      rw [run_convert_bytes_string w src dst e _ _ c hs he hd]
      simp [Conv.bytesToString, loadCells, loadCellsFrom]
      rfl
    · rcases h3 with h | ⟨b, o, he', _, hc⟩
      · exact absurd h hx
      · cases he'
        have := run_convert_bytes_arg w src e hs he b o xs.length c (xs.map fun x => (x.toNat : Int)) (by simp) (fun i hi => by
          have := hc i xs[i] (List.getElem?_eq_getElem hi)
          rw [this]
          simp [encB, hi, List.getD_eq_getElem?_getD]) dst hd
        rw [this]
        congr 2
        apply ByteArray.ext
        simp only [strOfNums, List.map_map]
        congr 1
        conv => rhs; rw [← List.map_id xs]
        apply List.map_congr_left
        intro x _
        simp
section
variable {α : Type} {enc : α → Value} {e : TypeId} {w : World} {base : Nat} {xs : List α}
/-- An owned row that isn't empty, laid open. -/
theorem Own.form {B : Option Addr} {n d : Nat} (h : Own enc e w base (.slice B n d) xs) (hn : 0 < n) :
    ∃ g, B = some ⟨g, 0, none⟩ ∧ base ≤ g ∧ g < w.heap.size ∧ (∀ j x, xs[j]? = some x → w.cell? ⟨g, j, none⟩ = some (enc x)) ∧ (∀ o, w.frozen? ⟨g, o, none⟩ = false) := by
  have hr := h.row
  rcases h.2 with ⟨he, h0⟩ | ⟨g, cap, cur, he, hb, hg, _⟩
  · cases he; omega
  · simp only [Value.slice.injEq] at he
    obtain ⟨rfl, _, rfl⟩ := he
    refine ⟨g, rfl, hb, (Array.getElem?_eq_some_iff.1 hg).1, fun j x hx => ?_, fun o => free_of_get hg⟩
    obtain ⟨b, o, h1, _, h2⟩ := hr.at hx
    cases h1
    rwa [Nat.zero_add] at h2
/-- A store into an owned row. -/
theorem Own.set {g n d : Nat} (h : Own enc e w base (.slice (some ⟨g, 0, none⟩) n d) xs) (j : Nat) (x : α) : Own enc e (w.setCell ⟨g, j, none⟩ (enc x)) base (.slice (some ⟨g, 0, none⟩) n d) (xs.set j x) := by
  have hl := h.row.len.1
  subst hl
  have hs := (World.ownsRow.stored h j (enc x)).1
  unfold Own
  simpa [List.map_set] using hs
end
/-- 's + t', both known as lists. -/
theorem str_add {P : Program} (x y : List UInt8) (h : x.length + y.length ≤ 9223372036854775807) : ∀ W : World, (Op.stringOp .add ⟨x.toArray⟩ ⟨y.toArray⟩).run P W = .ok (.string ⟨(x ++ y).toArray⟩) W := by
  intro W
  rw [run_string_add_sum _ _ _ (show x.toArray.size + y.toArray.size ≤ _ by simpa using h)]
  congr 2
/-- A string's byte; its pieces; two strings. -/
theorem str_at {P : Program} {t : TypeId} (h : P.underlying t = some .string) {l : List UInt8} {s : ByteArray} (hs : s = ⟨l.toArray⟩) {k : Nat} {x : UInt8} (hx : l[k]? = some x) (q : IntKind) (W : World) :
    (Instr.index t (.string s) (.int q (k : Int))).run P W = .ok (.int .u8 (x.toNat : Int)) W := by
  subst hs
  have hk : k < l.length := (List.getElem?_eq_some_iff.1 hx).1
  have hk2 : (k : Int) < ((⟨l.toArray⟩ : ByteArray).size : Int) := by
    have e : (⟨l.toArray⟩ : ByteArray).size = l.length := rfl
    omega
  rw [run_index_string W t _ q _ h, dif_pos ⟨by omega, hk2⟩]
  have : l[k] = x := by rw [List.getElem?_eq_getElem hk] at hx; exact Option.some.inj hx
  subst this
  rfl
theorem bytes_size (l : List UInt8) : (⟨l.toArray⟩ : ByteArray).size = l.length := rfl
theorem bytes_extract (l : List UInt8) (a b : Nat) : (⟨l.toArray⟩ : ByteArray).extract a b = ⟨((l.take b).drop a).toArray⟩ := by
  apply ByteArray.ext
  rw [ByteArray.data_extract]
  simp [List.extract_toArray, List.extract_eq_take_drop, List.drop_take]
theorem bytes_from (l : List UInt8) (k : Nat) : (⟨l.toArray⟩ : ByteArray).extract k l.length = ⟨(l.drop k).toArray⟩ := by
  rw [bytes_extract, List.take_of_length_le (Nat.le_refl _)]
/-! ### results -/
theorem take_snoc_get {α : Type} {xs : List α} {k : Nat} {x : α} (h : xs[k]? = some x) : xs.take (k + 1) = xs.take k ++ [x] := by
  rw [List.take_add_one, h]; rfl
theorem get_some_of_lt {α : Type} {xs : List α} {k : Nat} (h : k < xs.length) : ∃ x, xs[k]? = some x := ⟨_, List.getElem?_eq_getElem h⟩
/-- What only computes a number. -/
def RetB (v : Value) (w : World) : Ending → World → Prop := fun e w' => e = .returned v ∧ Below w.heap.size w w'
/-- What reads memory in an order that is open. -/
def RetQ (v : Value) (w : World) : Ending → World → Prop := fun e w' => e = .returned v ∧ ∃ n, w' = w.drewN n
theorem RetQ.below {v : Value} {w : World} {e : Ending} {w' : World} (h : RetQ v w e w') : RetB v w e w' := by
  obtain ⟨h1, n, rfl⟩ := h
  exact ⟨h1, Below.drewN (Below.refl _ w) n⟩
/-- A result that is a row of one's own. -/
def RetOwn {α : Type} (enc : α → Value) (e : TypeId) (xs : List α) (w : World) : Ending → World → Prop := fun en w' => ∃ v, en = .returned v ∧ Below w.heap.size w w' ∧ Own enc e w' w.heap.size v xs
/-- A row of one's own, and a bool. -/
def RetOwn2 {α : Type} (enc : α → Value) (e : TypeId) (xs : List α) (b : Bool) (w : World) : Ending → World → Prop := fun en w' => ∃ v, en = .returned (.tuple #[v, .bool b]) ∧ Below w.heap.size w w' ∧ Own enc e w' w.heap.size v xs
/-- One state block b, and what is new. -/
def RetS (v : Value) (S : Nat → Prop) (R : World → Prop) (w : World) : Ending → World → Prop := fun en w' => en = .returned v ∧ Keeps S w w' ∧ R w'
def RetR (S : Nat → Prop) (R : Value → World → Prop) (w : World) : Ending → World → Prop := fun en w' => ∃ v, en = .returned v ∧ Keeps S w w' ∧ R v w'
end Go.Proofs.Ytbgkohfifcfofaa
