/- The walk of path.Parse. -/
import Derived.Test.YtbgkohfifcfofaaDoorSplitW
import Derived.Test.YtbgkohfifcfofaaDoorAtoiW
import Derived.Test.YtbgkohfifcfofaaDoorAppIn
import Derived.Test.YtbgkohfifcfofaaDoorRef8P
import Derived.Test.YtbgkohfifcfofaaDoorPathA
set_option linter.unusedVariables false
set_option linter.unusedSimpArgs false
set_option maxRecDepth 100000
open Go.RowKit Go.Shelf
namespace Go.Proofs.YtbgkohfifcfofaaDoor
open Go.Proofs
attribute [local go_sem] Oper.semAt_some
def PU (n k : Nat) : Prop := k = n ∨ k = n + 1 ∨ k = n + 2 ∨ n + 8 ≤ k
/-- Between two rounds; n: the heap's size when the call began. -/
structure PI (w0 : World) (n : Nat) (pre : List (List UInt8)) (W : World) : Prop where
  below : Below n w0 W
  res0 : W.heap[n]? = some (.cells #[.slice none 0 0] 29 (0, 0))
  res1 : W.heap[n + 1]? = some (.cells #[.bool false] 4 (0, 0))
  out : ∃ v out, runP pre = some out ∧ W.heap[n + 2]? = some (.cells #[v] 29 (0, 0)) ∧ Own encI 3 W (n + 8) v out
/-- A round has left. -/
structure PX (w0 : World) (n : Nat) (c : Code) (pre : List (List UInt8)) (W : World) : Prop where
  ret : c = .ret
  below : Below n w0 W
  res0 : W.heap[n]? = some (.cells #[.slice none 0 0] 29 (0, 0))
  res1 : W.heap[n + 1]? = some (.cells #[.bool false] 4 (0, 0))
  no : runP pre = none
theorem belowK {n : Nat} {w0 A B : World} {S : Nat → Prop} (h : Below n w0 A) (hk : Keeps S A B) (hn : n ≤ A.heap.size) (hS : ∀ b, b < n → ¬ S b) : Below n w0 B := h.trans (hk.belowB hn hS)
theorem PI.keep {w0 : World} {n : Nat} {pre : List (List UInt8)} {A B : World} {S : Nat → Prop} (h : PI w0 n pre A) (hk : Keeps S A B) (hS : ∀ b, S b → b = n + 3 ∨ b = n + 6 ∨ b = n + 7) : PI w0 n pre B := by
  obtain ⟨h1, h2, h3, v, out, h4, h5, h6⟩ := h
  have hl := lt_of_get h2
  refine ⟨belowK h1 hk (by omega) (fun b hb hs => by have := hS b hs; omega), hk.get h2 (fun hs => by have := hS _ hs; omega), hk.get h3 (fun hs => by have := hS _ hs; omega), v, out, h4, hk.get h5 (fun hs => by have := hS _ hs; omega), ?_⟩
  exact h6.keep hk (fun b hb hs => by have := hS b hs; have := (h6.lt b hb).1; omega)
theorem PX.keep {w0 : World} {n : Nat} {c : Code} {pre : List (List UInt8)} {A B : World} {S : Nat → Prop} (h : PX w0 n c pre A) (hk : Keeps S A B) (hS : ∀ b, S b → b = n + 3 ∨ b = n + 6 ∨ b = n + 7) : PX w0 n c pre B := by
  obtain ⟨h0, h1, h2, h3, h4⟩ := h
  have hl := lt_of_get h2
  exact ⟨h0, belowK h1 hk (by omega) (fun b hb hs => by have := hS b hs; omega), hk.get h2 (fun hs => by have := hS _ hs; omega), hk.get h3 (fun hs => by have := hS _ hs; omega), h4⟩
theorem three (w : World) (a b c : Obj) : (((w.alloc a).alloc b).alloc c).heap[w.heap.size]? = some a ∧ (((w.alloc a).alloc b).alloc c).heap[w.heap.size + 1]? = some b ∧ (((w.alloc a).alloc b).alloc c).heap[w.heap.size + 2]? = some c ∧
    (((w.alloc a).alloc b).alloc c).heap.size = w.heap.size + 3 ∧ Below w.heap.size w (((w.alloc a).alloc b).alloc c) := by
  have h1 := heap_alloc_new w a
  generalize hw1 : w.alloc a = w1 at *
  have s1 : w1.heap.size = w.heap.size + 1 := by rw [← hw1]; simp
  have b1 : Below w.heap.size w w1 := by rw [← hw1]; exact (Below.refl _ w).alloc (Nat.le_refl _) _
  have h2 := heap_alloc_new w1 b
  generalize hw2 : w1.alloc b = w2 at *
  have s2 : w2.heap.size = w.heap.size + 2 := by rw [← hw2]; simp [s1]
  have b2 : Below w1.heap.size w1 w2 := by rw [← hw2]; exact (Below.refl _ w1).alloc (Nat.le_refl _) _
  have h3 := heap_alloc_new w2 c
  generalize hw3 : w2.alloc c = w3 at *
  have s3 : w3.heap.size = w.heap.size + 3 := by rw [← hw3]; simp [s2]
  have b3 : Below w2.heap.size w2 w3 := by rw [← hw3]; exact (Below.refl _ w2).alloc (Nat.le_refl _) _
  rw [s1] at h2
  rw [s2] at h3
  exact ⟨(b3.block _ (by omega)).trans ((b2.block _ (by omega)).trans h1), (b3.block _ (by omega)).trans h2, h3, s3, (b1.trans (b2.mono (by omega))).trans (b3.mono (by omega))⟩
/-- A round leaves: nil and false are stored. -/
theorem PX.make {w0 A : World} {n : Nat} {pre : List (List UInt8)} {a0 a1 : Value} (hb : Below n w0 A) (h0 : A.heap[n]? = some (.cells #[a0] 29 (0, 0))) (h1 : A.heap[n + 1]? = some (.cells #[a1] 4 (0, 0))) (hno : runP pre = none) :
    Keeps (PU n) A ((A.setCell ⟨n, 0, none⟩ (.slice none 0 0)).setCell ⟨n + 1, 0, none⟩ (.bool false)) ∧ PX w0 n .ret pre ((A.setCell ⟨n, 0, none⟩ (.slice none 0 0)).setCell ⟨n + 1, 0, none⟩ (.bool false)) := by
  have k1 : Keeps (fun k => k = n) A (A.setCell ⟨n, 0, none⟩ (.slice none 0 0)) := (Keeps.refl (fun k => k = n) A).setCell (a := ⟨n, 0, none⟩) (fun _ => rfl) _
  have g0 := get_setCell h0 (.slice none 0 0) (o := 0)
  have g1 := k1.get h1 (by omega)
  have hl := lt_of_get h1
  have hl' := lt_of_get h0
  generalize A.setCell ⟨n, 0, none⟩ (.slice none 0 0) = B at *
  have k2 : Keeps (fun k => k = n + 1) B (B.setCell ⟨n + 1, 0, none⟩ (.bool false)) := (Keeps.refl (fun k => k = n + 1) B).setCell (a := ⟨n + 1, 0, none⟩) (fun _ => rfl) _
  have g2 := get_setCell g1 (.bool false) (o := 0)
  have g3 := k2.get g0 (by omega)
  generalize B.setCell ⟨n + 1, 0, none⟩ (.bool false) = C at *
  have hk : Keeps (fun k => k = n ∨ k = n + 1) A C := (k1.mono (fun b _ h => .inl h)).trans k2 (fun b _ h => .inr h)
  refine ⟨hk.mono (fun b _ h => by unfold PU; omega), rfl, ?_, g3, g2, hno⟩
  exact belowK hb hk (by omega) (fun b hb hs => by omega)
/-- The function leaves: v and b are stored, the mark is taken. -/
theorem fin_parse {w0 A : World} {n D : Nat} {a0 a1 : Value} (hb : Below n w0 A) (h0 : A.heap[n]? = some (.cells #[a0] 29 (0, 0))) (h1 : A.heap[n + 1]? = some (.cells #[a1] 4 (0, 0))) (hD : A.heap[D]? = some (.deferred (some []))) (hn : n + 1 < D) (v : Value) (b : Bool) :
    ((A.setCell ⟨n, 0, none⟩ v).setCell ⟨n + 1, 0, none⟩ (.bool b)).heap[D]? = some (.deferred (some [])) ∧
    (((A.setCell ⟨n, 0, none⟩ v).setCell ⟨n + 1, 0, none⟩ (.bool b)).putObj D (.deferred none)).cell? ⟨n, 0, none⟩ = some v ∧
    (((A.setCell ⟨n, 0, none⟩ v).setCell ⟨n + 1, 0, none⟩ (.bool b)).putObj D (.deferred none)).cell? ⟨n + 1, 0, none⟩ = some (.bool b) ∧
    Below n w0 (((A.setCell ⟨n, 0, none⟩ v).setCell ⟨n + 1, 0, none⟩ (.bool b)).putObj D (.deferred none)) ∧
    Keeps (fun k => k = n ∨ k = n + 1 ∨ k = D) A (((A.setCell ⟨n, 0, none⟩ v).setCell ⟨n + 1, 0, none⟩ (.bool b)).putObj D (.deferred none)) := by
  have k1 : Keeps (fun k => k = n) A (A.setCell ⟨n, 0, none⟩ v) := (Keeps.refl (fun k => k = n) A).setCell (a := ⟨n, 0, none⟩) (fun _ => rfl) _
  have g0 := get_setCell h0 v (o := 0)
  have g1 := k1.get h1 (by omega)
  have d1 := k1.get hD (by omega)
  have hl := lt_of_get h1
  generalize A.setCell ⟨n, 0, none⟩ v = B at *
  have k2 : Keeps (fun k => k = n + 1) B (B.setCell ⟨n + 1, 0, none⟩ (.bool b)) := (Keeps.refl (fun k => k = n + 1) B).setCell (a := ⟨n + 1, 0, none⟩) (fun _ => rfl) _
  have g2 := get_setCell g1 (.bool b) (o := 0)
  have g3 := k2.get g0 (by omega)
  have d2 := k2.get d1 (by omega)
  generalize B.setCell ⟨n + 1, 0, none⟩ (.bool b) = C at *
  have k3 := Keeps.putObj C D (.deferred none)
  have g4 := k3.get g2 (by omega)
  have g5 := k3.get g3 (by omega)
  generalize C.putObj D (.deferred none) = E at *
  have hk : Keeps (fun k => k = n ∨ k = n + 1 ∨ k = D) A E := ((k1.mono (fun b _ h => .inl h)).trans k2 (fun b _ h => .inr (.inl h))).trans k3 (fun b _ h => .inr (.inr h))
  exact ⟨d2, cell_of_get g5 rfl, cell_of_get g4 rfl, belowK hb hk (by omega) (fun b hb hs => by omega), hk⟩
theorem res_cc {P : Program} {fn : Func} {p q : Tmp} {ty ty' : TypeId} (h : fn.results = #[.cell p ty, .cell q ty']) (tmps : Array Value) (w : World) (g g' : Nat) (v v' : Value)
    (a1 : ∀ w, (isAgg ty).run P w = .ok false w) (a2 : ∀ w, (isAgg ty').run P w = .ok false w)
    (hp : tmps.getD p undef = .pointer (some ⟨g, 0, none⟩)) (hq : tmps.getD q undef = .pointer (some ⟨g', 0, none⟩)) (hc : w.cell? ⟨g, 0, none⟩ = some v) (hc' : w.cell? ⟨g', 0, none⟩ = some v') :
    (results fn tmps).run P w = .ok (.tuple #[v, v']) w := by
  have hp' : tmps[p]?.getD undef = .pointer (some ⟨g, 0, none⟩) := by simpa using hp
  have hq' : tmps[q]?.getD undef = .pointer (some ⟨g', 0, none⟩) := by simpa using hq
  simp [results, h, hp', hq', asAddr, loadVar, a1, a2, hc, hc', go_sem]
set_option maxHeartbeats 2000000 in
theorem path_parse (w : World) (s : List UInt8) (hs : s.length ≤ 900) (hv : VarW w) (ht : TabW w) :
    Calls Tryd.prog 12 #[.string ⟨s.toArray⟩] w (RetParse (pathParse s) w) := by
  generalize hr : pathParse s = r
  refine (callsIn_wide (n := 3)).1 ?_
  refine callsIn_of_wp_marks Tryd.func12 rfl trivial ?_ rfl
  simp only [Tryd.ntmps12, List.size_toArray, List.length_cons, List.length_nil, Nat.reduceAdd, Nat.reduceSub, Array.replicate_succ, Array.replicate_zero, List.push_toArray, List.append_toArray, List.nil_append, List.cons_append]
  by_cases h0 : s = []
  · subst h0
    have hr : r = some [] := by rw [← hr]; rfl
    subst hr
    gi_wp2
    refine ⟨_, res_cc rfl _ _ w.heap.size (w.heap.size + 1) (.slice none 0 0) (.bool true) Tryd.isAgg29 Tryd.isAgg4 rfl rfl ?_ ?_, ⟨_, rfl, ?_, Own.nil _ _ _ _⟩⟩
    · exact cell_of_get (((Below.refl (w.heap.size + 1) (w.alloc (.cells #[.slice none 0 0] 29))).alloc (by simp) _).block _ (by omega) |>.trans (heap_alloc_new w _)) rfl
    · have := heap_alloc_new (w.alloc (.cells #[.slice none 0 0] 29)) (.cells #[.bool true] 4)
      simp only [World.size_alloc] at this
      exact cell_of_get this rfl
    · exact ((Below.refl _ w).alloc (Nat.le_refl _) _).alloc (by simp) _
  · have hemp : s.isEmpty = false := by simp [h0]
    replace hr := Lib.hid hr; replace h0 := Lib.hid h0
    gi_wp2
    obtain ⟨W1, hW1⟩ : ∃ W1, (((w.alloc (.cells #[.slice none 0 0] 29)).alloc (.cells #[.bool false] 4)).alloc (.cells #[.slice none 0 0] 29)) = W1 := ⟨_, rfl⟩
    rw [hW1]
    have hf := three w (.cells #[.slice none 0 0] 29) (.cells #[.bool false] 4) (.cells #[.slice none 0 0] 29)
    rw [hW1] at hf
    replace hW1 := Lib.hid hW1
    obtain ⟨f0, f1, f2, f3, f4⟩ := hf
    refine ⟨trivial, (callsIn_wide.2 (split_seq W1 s 46)).mono ?_⟩
    rintro e W2 ⟨rfl, hW2⟩
    have hg := splitWorld_at W1 s 46
    rw [← hW2, f3] at hg
    rw [f3]
    obtain ⟨g0, g1, g2, g3, g4⟩ := hg
    replace hW2 := Lib.hid hW2
    gi_wp2
    have hs2 : W2.heap.size = w.heap.size + 6 := by omega
    have hbel : Below w.heap.size w W2 := f4.trans (g4.mono (by omega))
    refine' wpIn_range (n := 3) (gf := 57) rfl (enters_of Tryd.func57 (by kernel_rfl) rfl) (encs := fun x : List UInt8 => #[.string ⟨x.toArray⟩]) (fun _ => rfl) (PU w.heap.size) (fun k => k = w.heap.size + 3) ?hU ?hT
      (S := fun xs => xs = splitB 46 s) (Sp := fun pre => pre <+: splitB 46 s) ?hseq (PI w w.heap.size) (PX w w.heap.size) ?hI ?hIx ?h0 _ ?assign ?body ?done ?stop
    case hU => intro k hk; unfold PU at hk; omega
    case hT => intro k hk; omega
    case hseq =>
      intro W hW
      refine split_iter _ (by omega) 46 s (by omega) _ _ _ _ _ ?_ (by omega) _ ((hW.block _ (by omega)).trans g0) ((hW.block _ (by omega)).trans g1) ((hW.block _ (by omega)).trans g2)
      intro k hk
      unfold PU at hk
      omega
    case hI => intro t A B h hk; exact h.keep hk (fun b hb => by omega)
    case hIx => intro c t A B h hk; exact h.keep hk (fun b hb => by omega)
    case h0 => exact ⟨hbel, (g4.block _ (by omega)).trans f0, (g4.block _ (by omega)).trans f1, _, [], rfl, (g4.block _ (by omega)).trans f2, Own.nil _ _ _ _⟩
    case assign =>
      intro l x W K hK
      gi_wp2
      exact hK
    case body =>
      rintro l pre x W hxl h2 ⟨i1, i2, i3, v, out, i4, i5, i6⟩
      have hvW : VarW W := hv.below i1 (Nat.le_refl _)
      have hat := atoi_call W x (by omega) hvW
      obtain ⟨hi64, hlen⟩ := runP_ok i4
      generalize hra : atoiR x = ra at hat
      have hst0 : runP (pre ++ [x]) = stepP (some out) x := by rw [runP_snoc, i4]
      simp only [stepP, hra] at hst0
      replace hst0 := Lib.hid hst0
      replace i4 := Lib.hid i4; replace hra := Lib.hid hra; replace hbel := Lib.hid hbel
      cases ra with
      | none =>
        have hstep : Hid (runP (pre ++ [x]) = none) := Lib.hid hst0.out
        gi_wp2
        refine ⟨trivial, ((callsIn_wide.2 hat).inRound l).mono ?_⟩
        rintro e W3 ⟨n3, ev, rfl, hb3, tp, pv, rfl⟩
        have j0 := (hb3.block _ (lt_of_get i2)).trans i2
        have j1 := (hb3.block _ (lt_of_get i3)).trans i3
        have c0 := cell_of_get j0 (o := 0) rfl
        have c1 := cell_of_get j1 (o := 0) rfl
        have d0 := free_of_get j0 (o := 0)
        have d1 := free_of_get j1 (o := 0)
        have hk3 := Keeps.of_below hb3 (PU w.heap.size)
        have hfin := PX.make (w0 := w) (i1.trans (hb3.mono (by have := lt_of_get i2; omega))) j0 j1 hstep.out
        replace hfin := Lib.hid hfin; replace hk3 := Lib.hid hk3; replace hb3 := Lib.hid hb3
        gi_wp2
        exact ⟨hk3.out.trans hfin.out.1 (fun b _ h => h), hfin.out.2⟩
      | some m =>
        have hst1 : Hid (runP (pre ++ [x]) = if out.length = 6 then none else some (out ++ [m])) := Lib.hid hst0.out
        obtain ⟨A, cc, rfl, hcc1, hcc2⟩ := i6.row.shape
        simp only [maxLen] at hcc2
        by_cases h6 : out.length = 6
        · have hstep : Hid (runP (pre ++ [x]) = none) := Lib.hid (by rw [hst1.out, if_pos h6])
          have h6i : ((out.length : Int) == 6) = true := by rw [h6]; rfl
          have h6d : (out.length : Int) = 6 := by omega
          gi_wp2
          refine ⟨trivial, ((callsIn_wide.2 hat).inRound l).mono ?_⟩
          rintro e W3 ⟨n3, ev, rfl, hb3, rfl, rfl⟩
          have j0 := (hb3.block _ (lt_of_get i2)).trans i2
          have j1 := (hb3.block _ (lt_of_get i3)).trans i3
          have j2 := (hb3.block _ (lt_of_get i5)).trans i5
          have c0 := cell_of_get j0 (o := 0) rfl
          have c1 := cell_of_get j1 (o := 0) rfl
          have c2 := cell_of_get j2 (o := 0) rfl
          have d0 := free_of_get j0 (o := 0)
          have d1 := free_of_get j1 (o := 0)
          have hk3 := Keeps.of_below hb3 (PU w.heap.size)
          have hfin := PX.make (w0 := w) (i1.trans (hb3.mono (by have := lt_of_get i2; omega))) j0 j1 hstep.out
          replace hfin := Lib.hid hfin; replace hk3 := Lib.hid hk3; replace hb3 := Lib.hid hb3
          gi_wp2
          exact ⟨hk3.out.trans hfin.out.1 (fun b _ h => h), hfin.out.2⟩
        · have hstep : Hid (runP (pre ++ [x]) = some (out ++ [m])) := Lib.hid (by rw [hst1.out, if_neg h6])
          have h6i : ((out.length : Int) == 6) = false := by simp only [beq_eq_false_iff_ne, ne_eq]; omega
          gi_wp2
          refine ⟨trivial, ((callsIn_wide.2 hat).inRound l).mono ?_⟩
          rintro e W3 ⟨n3, ev, rfl, hb3, rfl, rfl⟩
          have j0 := (hb3.block _ (lt_of_get i2)).trans i2
          have j1 := (hb3.block _ (lt_of_get i3)).trans i3
          have j2 := (hb3.block _ (lt_of_get i5)).trans i5
          have c2 := cell_of_get j2 (o := 0) rfl
          have d2 := free_of_get j2 (o := 0)
          have hk3 := Keeps.of_below hb3 (PU w.heap.size)
          have i7 := i6.below hb3
          have hsz3 := hb3.size
          have hvv := i7.below ((Below.refl _ W3).alloc (Nat.le_refl _) (.cells #[.int .i64 n3] 3))
          have hu : Src (W3.alloc (.cells #[.int .i64 n3] 3)) 1 (.slice (some ⟨W3.heap.size, 0, none⟩) 1 1) [n3].length ([n3].map encI) := Src.lit W3 1 #[.int .i64 n3] 3 1 1 rfl
          have hby : (out.length + [n3].length) * 8 ≤ 140737488355328 := by simp; omega
          have hsz : w.heap.size + 8 ≤ (W3.alloc (.cells #[.int .i64 n3] 3)).heap.size := by simp; omega
          have hadd : ∀ v' W4, App encI 3 (w.heap.size + 8) (W3.alloc (.cells #[.int .i64 n3] 3)) (.slice A out.length cc) (out ++ [n3]) v' W4 →
              W4.heap[w.heap.size + 2]? = some (.cells #[.slice A out.length cc] 29 (0, 0)) ∧ Keeps (PU w.heap.size) W (W4.setCell ⟨w.heap.size + 2, 0, none⟩ v') ∧ PI w w.heap.size (pre ++ [x]) (W4.setCell ⟨w.heap.size + 2, 0, none⟩ v') := by
            intro v' W4 ha
            have k4 : Keeps (fun b => (Value.slice A out.length cc).ownBlock = some b) W3 W4 := ((Keeps.refl _ W3).alloc _).trans ha.keep (fun b _ h => h)
            have hge : ∀ b, (Value.slice A out.length cc).ownBlock = some b → w.heap.size + 8 ≤ b := fun b h => (i7.lt b h).1
            have l0 := k4.get j0 (fun h => by have := hge _ h; omega)
            have l1 := k4.get j1 (fun h => by have := hge _ h; omega)
            have l2 := k4.get j2 (fun h => by have := hge _ h; omega)
            have k5 : Keeps (fun b => b = w.heap.size + 2) W4 (W4.setCell ⟨w.heap.size + 2, 0, none⟩ v') := (Keeps.refl (fun b => b = w.heap.size + 2) W4).setCell (a := ⟨w.heap.size + 2, 0, none⟩) (fun _ => rfl) _
            have l3 := get_setCell l2 v' (o := 0)
            have hkk : Keeps (PU w.heap.size) W (W4.setCell ⟨w.heap.size + 2, 0, none⟩ v') :=
              (hk3.trans (k4.mono (fun b _ h => .inr (.inr (.inr (hge b h))))) (fun b _ h => h)).trans k5 (fun b _ h => .inr (.inl h) |> Or.inr)
            refine ⟨l2, hkk, belowK i1 hkk (by have := lt_of_get i2; omega) (fun b hb hs => by unfold PU at hs; omega), k5.get l0 (by omega), k5.get l1 (by omega), v', _, hstep.out, l3, ?_⟩
            exact ha.own.keep k5 (fun b hb he => by have := (ha.own.lt b hb).1; omega)
          replace hvv := Lib.hid hvv; replace hu := Lib.hid hu; replace hby := Lib.hid hby; replace hsz := Lib.hid hsz; replace hadd := Lib.hid hadd; replace i7 := Lib.hid i7; replace i6 := Lib.hid i6; replace hb3 := Lib.hid hb3
          gi_wp2_with (gi_at_builtin; go_must (refine wpIn_app_own (fun _ => rfl) elI elI.t (by simp) hvv.out hu.out hby.out hsz.out rfl _ _ rfl rfl rfl ?_); rintro v' W4 ha; have hpp := hadd.out _ _ ha; have hc4 := cell_of_get hpp.1 (o := 0) rfl; have hf4 := free_of_get hpp.1 (o := 0); obtain ⟨A1, n1, c1, rfl⟩ := ha.own.row.shp; replace hpp := Lib.hid hpp; replace ha := Lib.hid ha)
          exact ⟨hpp.out.2.1, hpp.out.2.2⟩
    case done =>
      rintro xs W rfl ⟨i1, i2, i3, v, out, i4, i5, i6⟩ hD
      obtain ⟨hi64, hlen⟩ := runP_ok i4
      have hq : Hid (r = if okP s out then some out else none) := Lib.hid (by rw [← hr.out]; unfold pathParse; rw [if_neg h0.out, i4])
      have htW : TabW W := ht.below i1 (Nat.le_refl _)
      rw [hs2] at hD
      have hrow := i6.row
      obtain ⟨A, n0, c0, rfl⟩ := hrow.shp
      have e0 := cell_of_get i2 (o := 0) rfl
      have e1 := cell_of_get i3 (o := 0) rfl
      have e2 := cell_of_get i5 (o := 0) rfl
      have d0 := free_of_get i2 (o := 0)
      have d1 := free_of_get i3 (o := 0)
      replace i4 := Lib.hid i4; replace hbel := Lib.hid hbel; replace hi64 := Lib.hid hi64
      cases hpr : pathRight out with
      | false =>
        have hrn : r = none := by rw [hq.out]; simp [okP, hpr]
        subst hrn
        have hfin := fin_parse i1 i2 i3 hD (by omega) (.slice none 0 0) false
        replace hfin := Lib.hid hfin; replace hpr := Lib.hid hpr; replace hq := Lib.hid hq
        gi_wp2
        refine ⟨trivial, (callsIn_wide.2 (path_right W _ _ _ hrow)).mono ?_⟩
        rintro e W3 ⟨rfl, rfl⟩
        rw [hpr.out]
        gi_wp2
        refine ⟨trivial, ?_⟩
        gi_wp2
        obtain ⟨q1, q2, q3, q4, q5⟩ := hfin.out
        exact ⟨by simp, .inl ⟨_, _, rfl, run_takeDeferred q1, ⟨_, res_cc rfl _ _ w.heap.size (w.heap.size + 1) _ _ Tryd.isAgg29 Tryd.isAgg4 rfl rfl q2 q3, ⟨_, rfl, q4, Own.nil _ _ _ _⟩⟩⟩⟩
      | true =>
        have htx := path_text W _ _ _ hrow (by omega) hi64.out htW
        by_cases heq : ptextB out = s
        · have hrn : r = some out := by rw [hq.out]; simp [okP, hpr, heq]
          subst hrn
          rw [heq] at htx
          replace hpr := Lib.hid hpr; replace hq := Lib.hid hq; replace heq := Lib.hid heq
          gi_wp2
          refine ⟨trivial, (callsIn_wide.2 (path_right W _ _ _ hrow)).mono ?_⟩
          rintro e W3 ⟨rfl, rfl⟩
          rw [hpr.out]
          gi_wp2
          refine ⟨trivial, (callsIn_wide.2 htx).mono ?_⟩
          rintro e W3 ⟨rfl, hb3⟩
          have j0 := (hb3.block _ (lt_of_get i2)).trans i2
          have j1 := (hb3.block _ (lt_of_get i3)).trans i3
          have j2 := (hb3.block _ (lt_of_get i5)).trans i5
          have jD := (hb3.block _ (lt_of_get hD)).trans hD
          have x0 := cell_of_get j0 (o := 0) rfl
          have x1 := cell_of_get j1 (o := 0) rfl
          have x2 := cell_of_get j2 (o := 0) rfl
          have y0 := free_of_get j0 (o := 0)
          have y1 := free_of_get j1 (o := 0)
          have hfin := fin_parse (i1.trans (hb3.mono (by have := lt_of_get i2; omega))) j0 j1 jD (by omega) (.slice A n0 c0) true
          have i7 := i6.below hb3
          replace hfin := Lib.hid hfin; replace hb3 := Lib.hid hb3; replace i7 := Lib.hid i7; replace i6 := Lib.hid i6
          gi_wp2
          obtain ⟨q1, q2, q3, q4, q5⟩ := hfin.out
          refine ⟨by simp, .inl ⟨_, _, rfl, run_takeDeferred q1, ⟨_, res_cc rfl _ _ w.heap.size (w.heap.size + 1) _ _ Tryd.isAgg29 Tryd.isAgg4 rfl rfl q2 q3, ⟨_, rfl, q4, ?_⟩⟩⟩⟩
          exact (i7.out.keep q5 (fun b hb hs => by have := (i7.out.lt b hb).1; omega)).base_ (by omega)
        · have hrn : r = none := by rw [hq.out]; simp [okP, heq]
          subst hrn
          have hbeq : (ptextB out == s) = false := by simpa using heq
          generalize htt : ptextB out = tt at *
          replace hpr := Lib.hid hpr; replace hq := Lib.hid hq; replace heq := Lib.hid heq; replace htt := Lib.hid htt
          gi_wp2
          refine ⟨trivial, (callsIn_wide.2 (path_right W _ _ _ hrow)).mono ?_⟩
          rintro e W3 ⟨rfl, rfl⟩
          rw [hpr.out]
          gi_wp2
          refine ⟨trivial, (callsIn_wide.2 htx).mono ?_⟩
          rintro e W3 ⟨rfl, hb3⟩
          have j0 := (hb3.block _ (lt_of_get i2)).trans i2
          have j1 := (hb3.block _ (lt_of_get i3)).trans i3
          have j2 := (hb3.block _ (lt_of_get i5)).trans i5
          have jD := (hb3.block _ (lt_of_get hD)).trans hD
          have x0 := cell_of_get j0 (o := 0) rfl
          have x1 := cell_of_get j1 (o := 0) rfl
          have x2 := cell_of_get j2 (o := 0) rfl
          have y0 := free_of_get j0 (o := 0)
          have y1 := free_of_get j1 (o := 0)
          have hfin := fin_parse (i1.trans (hb3.mono (by have := lt_of_get i2; omega))) j0 j1 jD (by omega) (.slice none 0 0) false
          replace hfin := Lib.hid hfin; replace hb3 := Lib.hid hb3; replace i6 := Lib.hid i6
          gi_wp2
          obtain ⟨q1, q2, q3, q4, q5⟩ := hfin.out
          exact ⟨by simp, .inl ⟨_, _, rfl, run_takeDeferred q1, ⟨_, res_cc rfl _ _ w.heap.size (w.heap.size + 1) _ _ Tryd.isAgg29 Tryd.isAgg4 rfl rfl q2 q3, ⟨_, rfl, q4, Own.nil _ _ _ _⟩⟩⟩⟩
    case stop =>
      rintro c pre W hpre ⟨rfl, i1, i2, i3, hno⟩ hD
      have hrn : r = none := by rw [← hr.out]; unfold pathParse; rw [if_neg h0.out, runP_prefix hpre hno]
      subst hrn
      have k3 := Keeps.putObj W W2.heap.size (.deferred none)
      have g4 := k3.get i2 (by omega)
      have g5 := k3.get i3 (by omega)
      have hb4 := belowK i1 k3 (by have := lt_of_get i2; omega) (fun b hb hs => by omega)
      gi_wp2
      exact ⟨by simp, .inl ⟨_, _, rfl, run_takeDeferred hD, ⟨_, res_cc rfl _ _ w.heap.size (w.heap.size + 1) _ _ Tryd.isAgg29 Tryd.isAgg4 rfl rfl (cell_of_get g4 rfl) (cell_of_get g5 rfl), ⟨_, rfl, hb4, Own.nil _ _ _ _⟩⟩⟩⟩
end Go.Proofs.YtbgkohfifcfofaaDoor
