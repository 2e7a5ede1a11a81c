/- A range over a function whose iterator keeps state in cells of its own: the law, at frames that name blocks. -/
import Derived.Test.YtbgkohfifcfofaaDoorBase
import Derived.RangeFuncNested
import Derived.RangeFuncBound
import Derived.RangeFuncCalls
import Derived.RangeFuncLeaves
set_option linter.unusedVariables false
set_option linter.unusedSimpArgs false
open Go.RowKit
namespace Go.Proofs.YtbgkohfifcfofaaDoor
theorem Keeps.putObj (W : World) (l : Nat) (o : Obj) : Keeps (fun k => k = l) W (W.putObj l o) :=
  ⟨rfl, rfl, rfl, by simp, fun b _ hn => World.putObj_heap_other hn⟩
/-- How a round's body is left. U: what it turns. -/
def rfPost {α : Type} (U : Nat → Prop) (I : List α → World → Prop) (Ix : Code → List α → World → Prop) (xs : List α) (W : World) : Exit → Act → World → Prop
  | .normal, _, W' => Keeps U W W' ∧ I xs W'
  | .ret, _, W' => Keeps U W W' ∧ Ix .ret xs W'
  | .exit id, _, W' => Keeps U W W' ∧ Ix (.exit id) xs W'
  | .goto t, _, W' => Keeps U W W' ∧ Ix (.goto t) xs W'
  | .panic _, _, _ => False
  | .outgrown, _, _ => False
/-- What an iterator is: J abides what it turns (T); a round turns U and the loop's record l. -/
def Iter {α : Type} (Px : α → Prop) (P : Program) (n : Nat) (gf : Nat) (lb : Array Value) (encs : α → Array Value) (U T : Nat → Prop) (S Sp : List α → Prop) (l : Nat) (W : World) : Prop :=
  ∀ J Jx : List α → World → Prop, (∀ s A B, J s A → Keeps T A B → J s B) →
    (∀ pre x W1, Px x → J pre W1 → YieldAt Fence.wide (n - 1) P l (encs x) W1 fun e W' =>
      (e = .returned (.bool true) ∧ J (pre ++ [x]) W' ∧ Keeps (fun k => U k ∨ k = l) W1 W') ∨ (e = .returned (.bool false) ∧ Jx (pre ++ [x]) W')) →
    J [] W →
    CallsIn Fence.wide n P gf (#[.func (.yield l) #[] #[]] ++ lb) W fun e W' => (∃ v, e = .returned v) ∧ ((∃ xs, S xs ∧ J xs W') ∨ (∃ pre, Sp pre ∧ Jx pre W'))
theorem wpIn_range {α : Type} {Px : α → Prop} {n : Nat} {P : Program} {g : Operand} {ps : Array Tmp} {assign body : Code} {Q : Exit → Act → World → Prop} {a : Act} {w : World} {gf : Nat} {lb : Array Value}
    (hg : a.eval g = .func (.func gf) #[] lb) (eg : ∀ args w, (callFunc gf args).run P w = .ok (.enter gf args) w) {encs : α → Array Value} (hps : ∀ x, (encs x).size = ps.size)
    (U T : Nat → Prop) (hU : ∀ k, U k → k ≠ w.heap.size ∧ k ≠ w.heap.size + 1) (hT : ∀ k, T k → k ≠ w.heap.size ∧ k ≠ w.heap.size + 1) {S Sp : List α → Prop}
    (hseq : ∀ W, Below w.heap.size w W → Iter Px P (n - 1) gf lb encs U T S Sp (w.heap.size + 1) W)
    (I : List α → World → Prop) (Ix : Code → List α → World → Prop)
    (hI : ∀ s A B, I s A → Keeps (fun k => T k ∨ k = w.heap.size ∨ k = w.heap.size + 1) A B → I s B)
    (hIx : ∀ c s A B, Ix c s A → Keeps (fun k => T k ∨ k = w.heap.size ∨ k = w.heap.size + 1) A B → Ix c s B)
    (h0 : I [] w) (a₁ : α → Act)
    (hassign : ∀ (l : Nat) (x : α) (W : World) (K : Act → World → Prop), K (a₁ x) W →
      assign.wpIn (Fence.wide.inRound l) (n - 1 - 1) P (Exit.then K (fun _ _ _ => False)) { tmps := (ps.zip (encs x)).foldl (fun t (p, v) => t.setIfInBounds p v) a.tmps, defers := [] } W)
    (hbody : ∀ (l : Nat) (pre : List α) (x : α) (W : World), Px x → w.heap.size + 2 ≤ W.heap.size → I pre W → body.wpIn (Fence.wide.inRound l) (n - 1 - 1) P (rfPost U I Ix (pre ++ [x]) W) (a₁ x) W)
    (hdone : ∀ (xs : List α) (W : World), S xs → I xs W → W.heap[w.heap.size]? = some (.deferred (some [])) → Q .normal { a with defers := { target := .collected w.heap.size, args := #[] } :: a.defers } W)
    (hstop : ∀ (c : Code) (pre : List α) (W : World), Sp pre → Ix c pre W → W.heap[w.heap.size]? = some (.deferred (some [])) → c.wpIn Fence.wide n P Q { a with defers := { target := .collected w.heap.size, args := #[] } :: a.defers } W) :
    (Code.rangeFunc g ps assign body).wpIn Fence.wide n P Q a w := by
  refine wpIn_rangeFunc ?_
  intro fn hfn
  generalize hl : w.heap.size + 1 = l at *
  generalize hD : w.heap.size = D at *
  obtain ⟨rec, hrec⟩ : ∃ rec : LoopState → Option Code → Loop, rec = fun st pe => { state := st, pending := pe, fn, tmps := a.tmps, params := ps, assign, body, defers := D } := ⟨_, rfl⟩
  have hA : Keeps (fun k => T k ∨ k = D ∨ k = l) w ((w.alloc (.deferred (some []))).alloc (.loop (rec .ready none))) := ((Keeps.refl _ w).alloc _).alloc _
  have hent := run_enterLoop_outer (P := P) (w := w) fn a.tmps ps assign body
  rw [hD] at hent
  generalize hW1 : (w.alloc (.deferred (some []))).alloc (.loop (rec .ready none)) = W1 at *
  have hsz : w.heap.size + 2 ≤ W1.heap.size := by rw [← hW1]; simp
  have hL1 : W1.heap[l]? = some (.loop (rec .ready none)) := by
    have := heap_alloc_new (w.alloc (.deferred (some []))) (.loop (rec .ready none))
    rw [hW1] at this
    rw [← hl, ← hD]
    simpa using this
  have hK1 : W1.heap[D]? = some (.deferred (some [])) := by
    have h1 := heap_alloc_new w (.deferred (some []))
    have h2 := (Below.refl (w.heap.size + 1) (w.alloc (.deferred (some [])))).alloc (by simp) (.loop (rec .ready none))
    rw [hW1] at h2
    rw [← hD]
    exact (h2.block _ (by omega)).trans h1
  have hB1 : Below D w W1 := by rw [← hW1, ← hD]; exact ((Below.refl _ w).alloc (Nat.le_refl _) _).alloc (by simp) _
  have hDl : D ≠ l := by omega
  refine ⟨l, [{ target := .collected D, args := #[] }], W1, { target := .fn (.func gf) lb, args := #[.func (.yield l) #[] #[]] }, W1, gf, #[.func (.yield l) #[] #[]] ++ lb, W1, ?_, ?_, ?_, ?_, fun h => by simp [Fence.wide] at h, ?_⟩
  · rw [hrec] at hW1
    rw [← hl, ← hD, ← hW1, ← hD]
    exact run_enterLoop_outer _ _ _ _ _
  · simp only [resolve, hg]
    simp [go_sem]
  · intro f' _; trivial
  · simp [invoke, go_sem, eg]
  · have hT1 : ∀ {A B : World}, Keeps T A B → Keeps (fun k => T k ∨ k = D ∨ k = l) A B := fun h => h.mono (fun b _ h => .inl h)
    have hP1 : ∀ (A : World) (o : Obj), Keeps (fun k => T k ∨ k = D ∨ k = l) A (A.putObj l o) := fun A o => (Keeps.putObj A l o).mono (fun b _ h => .inr (.inr h))
    refine (hseq W1 hB1
      (fun pre W => I pre W ∧ W.heap[l]? = some (.loop (rec .ready none)) ∧ W.heap[D]? = some (.deferred (some [])))
      (fun pre W => ∃ c, Ix c pre W ∧ W.heap[l]? = some (.loop (rec .done (some c))) ∧ W.heap[D]? = some (.deferred (some [])))
      ?_ ?_ ⟨hI _ _ _ h0 hA, hL1, hK1⟩).mono ?_
    · rintro s A B ⟨h1, h2, h3⟩ hk
      exact ⟨hI _ _ _ h1 (hT1 hk), hk.get h2 (fun h => (hT _ h).2 rfl), hk.get h3 (fun h => (hT _ h).1 rfl)⟩
    · rintro pre x W hPx ⟨hi, hlW, hkW⟩
      have hy := run_yield (P := P) (args := encs x) hlW (by rw [hrec]; exact hps x)
      rw [hrec] at hy
      have hltW : l < W.heap.size := lt_of_get hlW
      have hk0 := hP1 W (.loop { rec .ready none with state := .busy })
      have hkU := Keeps.putObj W l (.loop { rec .ready none with state := .busy })
      have hl2 : (W.putObj l (.loop { rec .ready none with state := .busy })).heap[l]? = some (.loop { rec .ready none with state := .busy }) := World.putObj_heap_same hltW
      have hk2 : (W.putObj l (.loop { rec .ready none with state := .busy })).heap[D]? = some (.deferred (some [])) := (World.putObj_heap_other hDl).trans hkW
      have hszW := hkU.size
      refine ⟨fn, _, assign, body, hy, roundIn_of_wpIn hfn (hassign _ x W _ ⟨_, run_beginRound hlW (by rw [hrec]), ?_⟩)⟩
      generalize W.putObj l (.loop { rec .ready none with state := .busy }) = W2 at *
      refine wpIn_mono (hbody _ pre x W2 hPx (by omega) (hI _ _ _ hi hk0)) ?_
      have fin : ∀ (jump : Option Code) (W3 : World), Keeps U W2 W3 →
          (Instr.endRound l jump).run P W3 = .ok (.bool jump.isNone) (W3.putObj l (.loop (rec (if jump.isNone then .ready else .done) jump))) ∧
          (W3.putObj l (.loop (rec (if jump.isNone then .ready else .done) jump))).heap[l]? = some (.loop (rec (if jump.isNone then .ready else .done) jump)) ∧
          (W3.putObj l (.loop (rec (if jump.isNone then .ready else .done) jump))).heap[D]? = some (.deferred (some [])) ∧
          Keeps (fun k => T k ∨ k = D ∨ k = l) W3 (W3.putObj l (.loop (rec (if jump.isNone then .ready else .done) jump))) ∧
          Keeps (fun k => U k ∨ k = l) W (W3.putObj l (.loop (rec (if jump.isNone then .ready else .done) jump))) := by
        intro jump W3 hk3
        have hl3 := hk3.get hl2 (fun h => (hU _ h).2 rfl)
        have hr := run_endRound (P := P) jump hl3
        rw [hrec] at hr
        refine ⟨by rw [hrec]; exact hr, World.putObj_heap_same (lt_of_get hl3), (World.putObj_heap_other hDl).trans (hk3.get hk2 (fun h => (hU _ h).1 rfl)), hP1 _ _, ?_⟩
        exact ((hkU.mono (fun b _ h => .inr h)).trans hk3 (fun b _ h => .inl h)).trans (Keeps.putObj W3 l _) (fun b _ h => .inr h)
      rintro e a3 W3 hp
      cases e with
      | normal =>
        obtain ⟨hk3, hi3⟩ := hp
        obtain ⟨hr, hl4, hk4, hq, hu⟩ := fin none W3 hk3
        exact ⟨_, _, hr, .inl ⟨rfl, ⟨hI _ _ _ hi3 hq, hl4, hk4⟩, hu⟩⟩
      | ret =>
        obtain ⟨hk3, hi3⟩ := hp
        obtain ⟨hr, hl4, hk4, hq, hu⟩ := fin (some .ret) W3 hk3
        exact ⟨_, _, hr, .inr ⟨rfl, .ret, hIx _ _ _ _ hi3 hq, hl4, hk4⟩⟩
      | exit id =>
        obtain ⟨hk3, hi3⟩ := hp
        obtain ⟨hr, hl4, hk4, hq, hu⟩ := fin (some (.exit id)) W3 hk3
        exact ⟨_, _, hr, .inr ⟨rfl, .exit id, hIx _ _ _ _ hi3 hq, hl4, hk4⟩⟩
      | goto t =>
        obtain ⟨hk3, hi3⟩ := hp
        obtain ⟨hr, hl4, hk4, hq, hu⟩ := fin (some (.goto t)) W3 hk3
        exact ⟨_, _, hr, .inr ⟨rfl, .goto t, hIx _ _ _ _ hi3 hq, hl4, hk4⟩⟩
      | panic ch => exact hp.elim
      | outgrown => exact hp.elim
    · rintro e W2 ⟨⟨v, rfl⟩, (⟨xs, hS, hi, hlW, hkW⟩ | ⟨pre, hSp, c, hi, hlW, hkW⟩)⟩
      · have hr := run_endLoop (P := P) hlW (by rw [hrec]; simp)
        rw [hrec] at hr
        exact ⟨none, _, hr, hdone xs _ hS (hI _ _ _ hi (hP1 _ _)) ((World.putObj_heap_other hDl).trans hkW)⟩
      · have hr := run_endLoop (P := P) hlW (by rw [hrec]; simp)
        rw [hrec] at hr
        exact ⟨some c, _, hr, hstop c pre _ hSp (hIx _ _ _ _ hi (hP1 _ _)) ((World.putObj_heap_other hDl).trans hkW)⟩
end Go.Proofs.YtbgkohfifcfofaaDoor
