/- The walk of the law ChunkHeaps. -/
import Derived.Test.YtbgkohfifcfofaaChFirst
import Derived.Test.YtbgkohfifcfofaaRowM
import Derived.Deep.RegionHeld
set_option linter.unusedVariables false
set_option linter.unusedSimpArgs false
set_option maxRecDepth 100000
open Go.RowKit
namespace Go.Proofs.Ytbgkohfifcfofaa
open Go.Proofs

structure OpM where
  k : Int
  i : Int
  b : List UInt8
/-- An operation, in three cells. -/
def rdOp (B : Nat) (w : World) (o : OpM) (vs : List Value) : Prop := ∃ v, vs = [.int .i64 o.k, .int .i64 o.i, v] ∧ I64h o.k ∧ I64h o.i ∧ Row encB w (fun b => b < B) v o.b
theorem opens_op {H : Type} {enc : TypeId × Value → H} {W : World} {sp : Nat → Bool} {held : Bool} : Opens enc Try.prog W sp held 44 3 (rdOp W.heap.size) := by
  intro n cs x h
  have hl : cs.length = 3 := (trod_cells Try.underlying44 h).trans (show Try.prog.cellsOf 44 = 3 by kernel_rfl)
  refine ⟨hl, ?_⟩
  obtain ⟨n0, y0, h0⟩ := trod_field Try.underlying44 h 0 _ rfl
  obtain ⟨n1, y1, h1⟩ := trod_field Try.underlying44 h 1 _ rfl
  obtain ⟨n2, y2, h2⟩ := trod_field Try.underlying44 h 2 _ rfl
  replace h0 : DataW.trod enc Try.prog W 0 sp held n0 3 ((cs.drop 0).take (Try.prog.cellsOf 3)) = some y0 := h0
  replace h1 : DataW.trod enc Try.prog W 0 sp held n1 3 ((cs.drop 1).take (Try.prog.cellsOf 3)) = some y1 := h1
  replace h2 : DataW.trod enc Try.prog W 0 sp held n2 22 ((cs.drop 2).take (Try.prog.cellsOf 22)) = some y2 := h2
  rw [show Try.prog.cellsOf 3 = 1 by kernel_rfl] at h0 h1
  rw [show Try.prog.cellsOf 22 = 1 by kernel_rfl] at h2
  obtain ⟨k, hk, hk'⟩ := rd_int Try.underlying3 h0
  obtain ⟨i, hi, hi'⟩ := rd_int Try.underlying3 h1
  obtain ⟨b, v, hb, hb'⟩ := rd_bytes Try.underlying22 (show Try.prog.cellsOf 5 = 1 by kernel_rfl) Try.underlying5 h2
  match cs, hl with
  | [c0, c1, c2], _ =>
    simp at hk hi hb
    subst hk hi hb
    exact ⟨⟨k, i, b⟩, c2, rfl, hk', hi', hb'⟩
/-! ### the walk -/
set_option maxHeartbeats 4000000 in
theorem chunk_law_skip (w : World) (F : Nat → Prop) (v vl : Value) (xs : List UInt8) (h : Hd) (hr : Row encB w F v xs) (hs : 2000 < xs.length ∨ 5000 < h.L ∧ h.L ≤ 1073741824) :
    Calls Try.prog 4 #[v, h.v, vl] w (RetB (.bool true) w) := by
  obtain ⟨A, c, rfl, hc1, hc2⟩ := hr.shape
  simp only [maxLen] at hc2
  unfold Hd.v
  by_cases h1 : 2000 < xs.length
  · clear hs
    go_enter Try.func4, Try.ntmps4
    go_wp2_with fail
    refine (chunk_first _).mono ?_
    rintro e w1 ⟨rfl, hb1⟩
    go_wp2
    go_ret
    exact ⟨rfl, Below.step ((Below.refl _ w).alloc (Nat.le_refl _) _) hb1⟩
  · have h2 : 5000 < h.L ∧ h.L ≤ 1073741824 := by omega
    clear hs
    go_enter Try.func4, Try.ntmps4
    go_wp2_with fail
    refine (chunk_first _).mono ?_
    rintro e w1 ⟨rfl, hb1⟩
    have hc0 := hb1.cell (p := ⟨w.heap.size, 0, none⟩) (by simp)
    simp at hc0
    go_wp2
    go_ret
    exact ⟨rfl, Below.step ((Below.refl _ w).alloc (Nat.le_refl _) _) hb1⟩
def headObj (h : Hd) : Obj := .cells #[.int .i64 h.L, .int .i64 h.S, .int .i64 h.D] 31 (0, 0)
theorem head_cells {w : World} {n : Nat} {h : Hd} (hb : w.heap[n]? = some (headObj h)) : w.cell? ⟨n, 0, none⟩ = some (.int .i64 h.L) ∧ w.cell? ⟨n, 1, none⟩ = some (.int .i64 h.S) ∧ w.cell? ⟨n, 2, none⟩ = some (.int .i64 h.D) :=
  ⟨cell_of_get hb rfl, cell_of_get hb rfl, cell_of_get hb rfl⟩
set_option maxHeartbeats 4000000 in
theorem chunk_law_no (w : World) (F : Nat → Prop) (v vl : Value) (xs : List UInt8) (h : Hd) (hr : Row encB w F v xs) (h1 : xs.length ≤ 2000) (h2 : ¬ (5000 < h.L ∧ h.L ≤ 1073741824)) (hri : h.right = false) :
    Calls Try.prog 4 #[v, h.v, vl] w (RetB (.bool true) w) := by
  obtain ⟨A, c, rfl, hc1, hc2⟩ := hr.shape
  simp only [maxLen] at hc2
  unfold Hd.v
  have hb : h.L ≤ 5000 ∨ 1073741824 < h.L := by omega
  clear h2
  rcases hb with hb | hb
  all_goals
    have hx : (5000 < h.L) = (1073741824 < h.L) := by simp only [eq_iff_iff]; omega
    replace hx := Lib.hid hx
    go_enter Try.func4, Try.ntmps4
    go_wp2_with fail
    refine (chunk_first _).mono ?_
    rintro e w1 ⟨rfl, hb1⟩
    have hg1 := (hb1.block w.heap.size (by simp)).trans (heap_alloc_new w (headObj h))
    obtain ⟨c0, c1, c2⟩ := head_cells hg1
    have hb01 := Below.step ((Below.refl _ w).alloc (Nat.le_refl _) _) hb1
    replace hb1 := Lib.hid hb1; replace hb01 := Lib.hid hb01; replace hg1 := Lib.hid hg1
    go_wp2_with fail
    refine (heap_new_no w1 h hri).mono ?_
    rintro e w2 ⟨rfl, hb2⟩
    have hg2 := (hb2.block _ (lt_of_get hg1.out)).trans hg1.out
    clear c0 c1 c2
    obtain ⟨c0, c1, c2⟩ := head_cells hg2
    have hb02 := Below.step hb01.out hb2
    replace hb2 := Lib.hid hb2; replace hb02 := Lib.hid hb02; replace hg2 := Lib.hid hg2
    go_wp2_with fail
    refine (ref_right w2 h).mono ?_
    rintro e w3 ⟨rfl, hb3⟩
    rw [hri]
    have hb03 := Below.step hb02.out hb3
    replace hb3 := Lib.hid hb3; replace hb03 := Lib.hid hb03
    clear c0 c1 c2
    go_wp2_with fail
    refine (heap_put_nil w3 0 (.slice none 0 0)).mono ?_
    rintro e w4 ⟨rfl, rfl⟩
    go_wp2_with fail
    refine (missing_nil w3).mono ?_
    rintro e w4 ⟨rfl, rfl⟩
    go_wp2_with fail
    refine (next_nil w3 0).mono ?_
    rintro e w4 ⟨rfl, rfl⟩
    go_wp2
    go_ret
    exact ⟨rfl, hb03.out⟩
/-- What holds at a round's head. -/
structure LawAt (w0 : World) (n : Nat) (h : Hd) (bh bm bx bH bP : Nat) (F : Nat → Prop) (st : St) (W : World) : Prop where
  below : Below n w0 W
  head : W.heap[n]? = some (headObj h)
  hp : HeapAt W bh bm F h st
  rf : RefAt W bx bH bP h st
  dis : ¬ F bx ∧ ¬ F bH ∧ ¬ F bP
  ne : bh ≠ bx ∧ bh ≠ bH ∧ bh ≠ bP ∧ bm ≠ bx ∧ bm ≠ bH ∧ bm ≠ bP
  lo : n < bh ∧ n < bm ∧ n < bx ∧ n < bH ∧ n < bP
theorem LawAt.below' {w0 W W1 : World} {n : Nat} {h : Hd} {bh bm bx bH bP : Nat} {F : Nat → Prop} {st : St} (H : LawAt w0 n h bh bm bx bH bP F st W) (hb : Below W.heap.size W W1) : LawAt w0 n h bh bm bx bH bP F st W1 := by
  have := lt_of_get H.head
  exact ⟨H.below.trans (hb.mono (by omega)), (hb.block _ (lt_of_get H.head)).trans H.head, H.hp.below hb, H.rf.below hb, H.dis, H.ne, H.lo⟩
/-- Both have taken a chunk. -/
theorem LawAt.put {w0 W W1 W2 : World} {n : Nat} {h : Hd} {bh bm bx bH bP : Nat} {F F' : Nat → Prop} {st st' : St} (H : LawAt w0 n h bh bm bx bH bP F st W)
    (hk1 : Keeps (fun b => b = bm) W W1) (hp : HeapAt W1 bh bm F' h st') (hF : ∀ b, F' b → F b ∨ W.heap.size ≤ b)
    (hk2 : Keeps (fun b => b = bH ∨ b = bP) W1 W2) (rf : RefAt W2 bx bH bP h st') : LawAt w0 n h bh bm bx bH bP F' st' W2 := by
  have l1 := lt_of_get H.head
  have l2 := lt_of_get H.rf.head
  have l3 := lt_of_get H.rf.has
  have l4 := lt_of_get H.rf.part
  obtain ⟨d1, d2, d3⟩ := H.dis
  obtain ⟨n1, n2, n3, n4, n5, n6⟩ := H.ne
  obtain ⟨o1, o2, o3, o4, o5⟩ := H.lo
  have dis : ¬ F' bx ∧ ¬ F' bH ∧ ¬ F' bP := by
    refine ⟨fun hf => ?_, fun hf => ?_, fun hf => ?_⟩
    · rcases hF _ hf with h | h
      · exact d1 h
      · omega
    · rcases hF _ hf with h | h
      · exact d2 h
      · omega
    · rcases hF _ hf with h | h
      · exact d3 h
      · omega
  refine ⟨?_, hk2.get (hk1.get H.head (by omega)) (by omega), hp.keep hk2 (by omega) (by omega) (fun b hb he => ?_), rf, dis, H.ne, H.lo⟩
  · exact (H.below.trans (hk1.belowB (by omega) (fun b hb he => by omega))).trans (hk2.belowB (by have := hk1.size; omega) (fun b hb he => by omega))
  · rcases he with rfl | rfl
    · exact dis.2.1 hb
    · exact dis.2.2 hb
/-- At the law's beginning. -/
theorem LawAt.start {w0 W1 W2 W3 : World} {n : Nat} {h : Hd} {bh bm bx bH bP : Nat} {st : St} (hb : Below n w0 W1) (hg : W1.heap[n]? = some (headObj h)) (b12 : Below W1.heap.size W1 W2) (l1 : W1.heap.size ≤ bh ∧ W1.heap.size ≤ bm) (hp : HeapAt W2 bh bm (fun _ => False) h st)
    (b23 : Below W2.heap.size W2 W3) (l2 : W2.heap.size ≤ bx ∧ W2.heap.size ≤ bH ∧ W2.heap.size ≤ bP) (rf : RefAt W3 bx bH bP h st) : LawAt w0 n h bh bm bx bH bP (fun _ => False) st W3 := by
  have l := lt_of_get hg
  have hl := hp.lts
  have s1 := b12.size
  refine ⟨(hb.trans (b12.mono (by omega))).trans (b23.mono (by omega)), (b23.block _ (by omega)).trans ((b12.block _ l).trans hg), hp.below b23, rf, ⟨fun h => h, fun h => h, fun h => h⟩, ⟨by omega, by omega, by omega, by omega, by omega, by omega⟩, ⟨by omega, by omega, by omega, by omega, by omega⟩⟩
set_option maxHeartbeats 10000000 in
theorem chunk_law (w : World) (v vl : Value) (xs : List UInt8) (ops : List OpM) (h : Hd) (hr : Row encB w (fun b => b < w.heap.size) v xs) (hops : RowW 3 (rdOp w.heap.size) w (fun b => b < w.heap.size) vl ops) (h1 : xs.length ≤ 2000) (h2 : h.L ≤ 5000) (hri : h.right = true) :
    Calls Try.prog 4 #[v, h.v, vl] w (RetB (.bool true) w) := by
  obtain ⟨A, c, rfl, hc1, hc2⟩ := hr.shape
  obtain ⟨B, d, rfl, hd1, hd2⟩ := hops.shape
  simp only [maxLen] at hc2 hd2
  have hcm : h.cnt ≤ 5000 := by have := (Hd.cnt_mul hri).2.2; omega
  unfold Hd.v
  go_enter Try.func4, Try.ntmps4
  go_wp2_with fail
  refine (chunk_first _).mono ?_
  rintro e w1 ⟨rfl, hb1⟩
  have hg1 := (hb1.block w.heap.size (by simp)).trans (heap_alloc_new w (headObj h))
  obtain ⟨c0, c1, c2⟩ := head_cells hg1
  have hb01 := Below.step ((Below.refl _ w).alloc (Nat.le_refl _) _) hb1
  replace hb1 := Lib.hid hb1; replace hb01 := Lib.hid hb01; replace hg1 := Lib.hid hg1
  go_wp2_with fail
  refine (heap_new w1 h hri).mono ?_
  rintro e w2 ⟨bh, bm, rfl, hb2, hlo1, hlo2, HP⟩
  have hg2 := (hb2.block _ (lt_of_get hg1.out)).trans hg1.out
  clear c0 c1 c2
  obtain ⟨c0, c1, c2⟩ := head_cells hg2
  replace hb2 := Lib.hid hb2; replace hg2 := Lib.hid hg2; replace HP := Lib.hid HP
  go_wp2_with fail
  refine (ref_right w2 h).mono ?_
  rintro e w3 ⟨rfl, hb3⟩
  rw [hri]
  have hg3 := (hb3.block _ (lt_of_get hg2.out)).trans hg2.out
  clear c0 c1 c2
  obtain ⟨c0, c1, c2⟩ := head_cells hg3
  have hb23 := Lib.hid (Below.step hb2.out hb3)
  have HP3 := HP.out.below hb3
  replace hb3 := Lib.hid hb3; replace hg3 := Lib.hid hg3; replace HP3 := Lib.hid HP3
  go_wp2_with fail
  refine (ref_new w3 h hri).mono ?_
  rintro e w4 ⟨bx, bH, bP, rfl, hb4, hlo3, hlo4, hlo5, RF⟩
  have hLA := Lib.hid (LawAt.start hb01.out hg1.out hb23.out ⟨hlo1, hlo2⟩ HP3.out hb4 ⟨hlo3, hlo4, hlo5⟩ RF)
  clear c0 c1 c2 hb23 HP3 hg3 hb3 HP hg2 hb2 hg1 hb01 hb1 RF hb4 hlo1 hlo2 hlo3 hlo4 hlo5
  have h60 : ops.length ≤ 9223372036854775807 := by omega
  replace hr := Lib.hid hr; replace hops := Lib.hid hops
  go_wp2_with fail
  go_loopw [6, 10, 11, 12, 13, 14, 15, 16, 17, 66] (fun _ _ _ _ _ _ _ _ _ i W => ∃ (k : Nat) (st : St) (F : Nat → Prop), k ≤ ops.length ∧ i = .int .i64 k ∧ Hid (LawAt w w.heap.size h bh bm bx bH bP F st W)) (fun _ _ _ _ _ _ _ _ _ i _ => ops.length - (intOf i).toNat)
  case atStart => exact ⟨0, _, _, Nat.zero_le _, rfl, hLA⟩
  case round =>
    obtain ⟨k, st, F, hk, rfl, hL⟩ := hrel
    clear hLA
    by_cases hlt : k < ops.length
    · obtain ⟨o, ho⟩ := get_some_of_lt hlt
      obtain ⟨b, of, rfl, hbl, vs, hvl, ⟨vb, rfl, hk64, hi64, hob⟩, hcell⟩ := hops.out.at ho
      obtain ⟨ok, oi, ob⟩ := o
      simp only at hk64 hi64 hob hcell
      have e0 := hcell 0 _ rfl
      have e1 := hcell 1 _ rfl
      have e2 := hcell 2 _ rfl
      have q0 := (hL.out.below.cell (p := ⟨b, of + k * 3 + 0, none⟩) hbl).trans e0
      have q1 := (hL.out.below.cell (p := ⟨b, of + k * 3 + 1, none⟩) hbl).trans e1
      have q2 := (hL.out.below.cell (p := ⟨b, of + k * 3 + 2, none⟩) hbl).trans e2
      have hobw := hob.belowB hL.out.below (fun b hb => hb)
      obtain ⟨Bo, no, co, rfl⟩ := hob.shp
      have hno := hob.len.1
      subst hno
      simp only [Nat.add_zero] at q0
      clear e0 e1 e2 hcell
      replace ho := Lib.hid ho; replace hob := Lib.hid hob; replace hobw := Lib.hid hobw; replace hvl := Lib.hid hvl
      by_cases h6 : 60 ≤ k
      · go_wp2
        go_ret
        exact ⟨rfl, (hL.out.below).alloc hL.out.below.size _⟩
      · by_cases h7 : 1000 < ob.length
        · go_wp2
          go_ret
          exact ⟨rfl, (hL.out.below).alloc hL.out.below.size _⟩
        · have hLa := hL.out.below' ((Below.refl _ wr).alloc (Nat.le_refl _) (.cells #[.int .i64 ok, .int .i64 oi, .slice Bo ob.length co] 44))
          have hga := heap_alloc_new wr (.cells #[.int .i64 ok, .int .i64 oi, .slice Bo ob.length co] 44)
          have hoa := hobw.out.below ((Below.refl _ wr).alloc (Nat.le_refl _) (.cells #[.int .i64 ok, .int .i64 oi, .slice Bo ob.length co] 44))
          obtain ⟨c0, c1, c2⟩ := head_cells hL.out.head
          have hra := (hr.out.belowB hLa.below (fun b hb => hb))
          have hsz := lt_of_get hL.out.head
          have hne : bm ≠ wr.heap.size ∧ bH ≠ wr.heap.size ∧ bP ≠ wr.heap.size := by
            have := hL.out.hp.lts; have := lt_of_get hL.out.rf.has; have := lt_of_get hL.out.rf.part; omega
          have hwl : w.heap.size ≤ (wr.alloc (.cells #[.int .i64 ok, .int .i64 oi, .slice Bo ob.length co] 44)).heap.size := hLa.below.size
          replace hLa := Lib.hid hLa; replace hga := Lib.hid hga; replace hoa := Lib.hid hoa; replace hra := Lib.hid hra; replace hne := Lib.hid hne
          cases hA : ((IntKind.u64.wrap ok).tmod 3 == 1) with
          | true =>
            go_wp2_with fail
            generalize wr.alloc (.cells #[.int .i64 ok, .int .i64 oi, .slice Bo ob.length co] 44) = wa at *
            clear q0 q1 q2 c0 c1 c2
            refine (chunk_cut wa _ _ xs h.S oi hra.out (fun b hb => Nat.lt_of_lt_of_le hb hwl) (by omega)).mono ?_
            rintro e wb ⟨cv, rfl, hbb, hown⟩
            have hLb := hLa.out.below' hbb
            have hgb := (hbb.block _ (lt_of_get hga.out)).trans hga.out
            have hrb := hown.row.inside
            have hG : ¬ (wa.heap.size ≤ bH ∧ bH < wb.heap.size) ∧ ¬ (wa.heap.size ≤ bP ∧ bP < wb.heap.size) := by
              have := lt_of_get hLa.out.rf.has; have := lt_of_get hLa.out.rf.part; omega
            have hM : ¬ (wa.heap.size ≤ bm ∧ bm < wb.heap.size) := by
              have := hLa.out.hp.lts; omega
            obtain ⟨Ac, nc, cc, rfl⟩ := hown.row.shp
            generalize (cutOf xs h.S oi).getD [] = cb at *
            generalize (cutOf xs h.S oi).isSome = ci at *
            replace hbb := Lib.hid hbb; replace hown := Lib.hid hown
            have e1 := cell_of_get hgb (o := 1) rfl
            have e2 := cell_of_get hgb (o := 2) rfl
            have hLd := hLb.below' (Below.refl _ wb).drew
            have hgd : wb.drew.heap[wr.heap.size]? = _ := hgb
            have hrd := hrb.below (Below.refl _ wb).drew
            have hS0 : wb.drew.cell? ⟨wr.heap.size, 1, none⟩ = some (.int .i64 oi) ∧ wb.drew.cell? ⟨wr.heap.size, 2, none⟩ = some (.slice Bo ob.length co) := ⟨e1, e2⟩
            generalize hrr : putS h st oi cb = rr at *
            have hne1 : (rr.1 != rr.1) = false := by simp
            replace hLb := Lib.hid hLb; replace hgb := Lib.hid hgb; replace hrb := Lib.hid hrb; replace hLd := Lib.hid hLd; replace hgd := Lib.hid hgd; replace hrd := Lib.hid hrd; replace hrr := Lib.hid hrr; replace hG := Lib.hid hG; replace hM := Lib.hid hM
            go_wp2_with fail
            go_region_held (fun W => W.cell? ⟨wr.heap.size, 1, none⟩ = some (.int .i64 oi) ∧ W.cell? ⟨wr.heap.size, 2, none⟩ = some (.slice Bo ob.length co)) (first | exact hS0 | exact hS1 | exact hS2) (first
              | (go_at_call 11; refine (heap_put _ bh bm _ _ h st oi hi64 _ cb hLd.out.hp hrd.out).mono ?_; rw [hrr.out]; rintro e wp ⟨rfl, hkp, F', HP', hF'⟩; have hS1 : wp.cell? ⟨wr.heap.size, 1, none⟩ = some (.int .i64 oi) ∧ wp.cell? ⟨wr.heap.size, 2, none⟩ = some (.slice Bo ob.length co) := ⟨hkp.cell hS0.1 (fun e => hne.out.1 e.symm), hkp.cell hS0.2 (fun e => hne.out.1 e.symm)⟩; have hRF1 := hLd.out.rf.keep hkp (fun e => hLd.out.ne.2.2.2.1 e.symm) (fun e => hLd.out.ne.2.2.2.2.1 e.symm) (fun e => hLd.out.ne.2.2.2.2.2 e.symm); have hrp := hrd.out.keep hkp (fun b hb e => hM.out (e ▸ hb)); have hgp := hkp.get hgd.out (fun e => hne.out.1 e.symm); replace hRF1 := Lib.hid hRF1; replace hrp := Lib.hid hrp; replace hkp := Lib.hid hkp; replace HP' := Lib.hid HP'; replace hF' := Lib.hid hF'; replace hgp := Lib.hid hgp)
              | (go_at_call 16; refine (ref_put _ bx bH bP h st oi hi64 _ cb _ hRF1.out hrp.out hG.out).mono ?_; rw [hrr.out]; rintro e wq ⟨rfl, hkq, RFq⟩; have hgq := hkq.get hgp.out (fun e => by rcases e with e | e; exact hne.out.2.1 e.symm; exact hne.out.2.2 e.symm); have hS2 : wq.cell? ⟨wr.heap.size, 1, none⟩ = some (.int .i64 oi) ∧ wq.cell? ⟨wr.heap.size, 2, none⟩ = some (.slice Bo ob.length co) := ⟨cell_of_get hgq rfl, cell_of_get hgq rfl⟩; replace hgq := Lib.hid hgq; replace hkq := Lib.hid hkq; replace RFq := Lib.hid RFq))
            all_goals
              have hLt := Lib.hid (hLd.out.put hkp.out HP'.out hF'.out hkq.out RFq.out)
              have hgt := hgq
              clear hS0 hS1 hS2 e1 e2
              go_wp2_with fail
              have hl512 := hLt.out.hp.small
              have hcn5 : h.cnt ≤ 10000 := by omega
              have hcn6 : h.cnt ≤ 1073741824 := by omega
              generalize hwh : wholeS h rr.2 = wh
              generalize hms : missS h rr.2 = ms
              have hne2 : (ms != ms) = false := by simp
              obtain ⟨ws, we⟩ := wh
              have hne3 : (we != we) = false := by simp
              have hne4 : (ws == ws) = true := by simp
              replace hwh := Lib.hid hwh; replace hms := Lib.hid hms; replace hl512 := Lib.hid hl512
              refine (heap_bytes _ bh bm _ h rr.2 hLt.out.hp).mono ?_
              rw [hwh.out]
              rintro e wx ⟨sv, rfl, hbx, hos⟩
              have hLx := hLt.out.below' hbx
              have hgx := (hbx.block _ (lt_of_get hgt.out)).trans hgt.out
              obtain ⟨As, ns, cs, rfl⟩ := hos.row.shp
              have hosx := hos.row
              replace hbx := Lib.hid hbx; replace hLx := Lib.hid hLx; replace hgx := Lib.hid hgx; replace hos := Lib.hid hos; replace hosx := Lib.hid hosx
              go_wp2_with fail
              refine (ref_bytes _ bx bH bP h rr.2 hLx.out.rf hl512.out hcn5).mono ?_
              rw [hwh.out]
              rintro e wy ⟨rfl, hby⟩
              rw [show encS (ws, we).1 = .string ⟨ws.toArray⟩ from rfl]
              have hLy := (hLx.out.below' hby).below' (Below.refl _ wy).drew
              have hgy : wy.drew.heap[wr.heap.size]? = _ := (hby.block _ (lt_of_get hgx.out)).trans hgx.out
              have hosy := (hosx.out.below hby).below (Below.refl _ wy).drew
              have hT0 : wy.cell? ⟨wr.heap.size, 1, none⟩ = some (.int .i64 oi) := cell_of_get hgy rfl
              replace hby := Lib.hid hby; replace hLy := Lib.hid hLy; replace hgy := Lib.hid hgy; replace hosy := Lib.hid hosy
              go_wp2_with fail
              have hT0d : wy.drew.cell? ⟨wr.heap.size, 1, none⟩ = some (.int .i64 oi) := hT0
              go_region_held (fun W => W.cell? ⟨wr.heap.size, 1, none⟩ = some (.int .i64 oi)) (first | exact hT0d | exact hT1 | exact hT2) (first
                | (go_at_call 12; refine (heap_missing _ bh bm _ h rr.2 hLy.out.hp).mono ?_; rw [hms.out]; rintro e wz ⟨rfl, hbz⟩; have hLz := hLy.out.below' hbz; have hgz := (hbz.block _ (lt_of_get hgy.out)).trans hgy.out; have hosz := hosy.out.below hbz; have hT1 : wz.cell? ⟨wr.heap.size, 1, none⟩ = some (.int .i64 oi) := cell_of_get hgz rfl; replace hbz := Lib.hid hbz; replace hLz := Lib.hid hLz; replace hgz := Lib.hid hgz; replace hosz := Lib.hid hosz)
                | (go_at_call 19; refine (ref_missing _ bx bH bP h rr.2 hLz.out.rf hcn6).mono ?_; rw [hms.out]; rintro e w' ⟨rfl, rfl⟩)
                | (go_at_call 13; refine (heap_next _ bh bm _ h rr.2 oi hi64 hLz.out.hp).mono ?_; rintro e wn ⟨rx, rfl, hrx, hbn⟩; have hLn := hLz.out.below' hbn; have hgn := (hbn.block _ (lt_of_get hgz.out)).trans hgz.out; have hosn := hosz.out.below hbn; have hT2 : wn.cell? ⟨wr.heap.size, 1, none⟩ = some (.int .i64 oi) := cell_of_get hgn rfl; have hcvn := hosn.str (src := 22) (dst := 9) Try.underlying22 Try.underlying5 Try.underlying9; have hne5 : (rx != rx) = false := by simp
                   replace hbn := Lib.hid hbn; replace hLn := Lib.hid hLn; replace hgn := Lib.hid hgn; replace hosn := Lib.hid hosn; replace hrx := Lib.hid hrx)
                | (go_at_call 20; refine (ref_next _ bx bH bP h rr.2 oi hi64 hLn.out.rf hcn6).mono ?_; rintro e w' ⟨⟨ry, rfl, hry⟩, rfl⟩; obtain rfl := hry.one hrx.out))
              all_goals
                go_wp2
                exact ⟨⟨k + 1, _, _, by omega, by go_num, hLn⟩, by simp [intOf]; omega⟩
          | false =>
            cases hB : ((IntKind.u64.wrap ok).tmod 3 == 0) with
            | true =>
              go_wp2_with fail
              generalize hwb : wr.alloc (.cells #[.int .i64 ok, .int .i64 oi, .slice Bo ob.length co] 44) = wb at *
              clear q0 q1 q2 c0 c1 c2
              have hLb := hLa.out
              have hgb := hga.out
              have hrb := hoa.out
              have hG : ¬ (bH < w.heap.size) ∧ ¬ (bP < w.heap.size) := by
                have := hLb.lo; omega
              have hM : ¬ (bm < w.heap.size) := by
                have := hLb.lo; omega
              replace hwb := Lib.hid hwb
              have e1 := cell_of_get hgb (o := 1) rfl
              have e2 := cell_of_get hgb (o := 2) rfl
              have hLd := hLb.below' (Below.refl _ wb).drew
              have hgd : wb.drew.heap[wr.heap.size]? = _ := hgb
              have hrd := hrb.below (Below.refl _ wb).drew
              have hS0 : wb.drew.cell? ⟨wr.heap.size, 1, none⟩ = some (.int .i64 oi) ∧ wb.drew.cell? ⟨wr.heap.size, 2, none⟩ = some (.slice Bo ob.length co) := ⟨e1, e2⟩
              generalize hrr : putS h st oi ob = rr at *
              have hne1 : (rr.1 != rr.1) = false := by simp
              replace hLb := Lib.hid hLb; replace hgb := Lib.hid hgb; replace hrb := Lib.hid hrb; replace hLd := Lib.hid hLd; replace hgd := Lib.hid hgd; replace hrd := Lib.hid hrd; replace hrr := Lib.hid hrr; replace hG := Lib.hid hG; replace hM := Lib.hid hM
              go_wp2_with fail
              go_region_held (fun W => W.cell? ⟨wr.heap.size, 1, none⟩ = some (.int .i64 oi) ∧ W.cell? ⟨wr.heap.size, 2, none⟩ = some (.slice Bo ob.length co)) (first | exact hS0 | exact hS1 | exact hS2) (first
                | (go_at_call 11; refine (heap_put _ bh bm _ _ h st oi hi64 _ ob hLd.out.hp hrd.out).mono ?_; rw [hrr.out]; rintro e wp ⟨rfl, hkp, F', HP', hF'⟩; have hS1 : wp.cell? ⟨wr.heap.size, 1, none⟩ = some (.int .i64 oi) ∧ wp.cell? ⟨wr.heap.size, 2, none⟩ = some (.slice Bo ob.length co) := ⟨hkp.cell hS0.1 (fun e => hne.out.1 e.symm), hkp.cell hS0.2 (fun e => hne.out.1 e.symm)⟩; have hRF1 := hLd.out.rf.keep hkp (fun e => hLd.out.ne.2.2.2.1 e.symm) (fun e => hLd.out.ne.2.2.2.2.1 e.symm) (fun e => hLd.out.ne.2.2.2.2.2 e.symm); have hrp := hrd.out.keep hkp (fun b hb e => hM.out (e ▸ hb)); have hgp := hkp.get hgd.out (fun e => hne.out.1 e.symm); replace hRF1 := Lib.hid hRF1; replace hrp := Lib.hid hrp; replace hkp := Lib.hid hkp; replace HP' := Lib.hid HP'; replace hF' := Lib.hid hF'; replace hgp := Lib.hid hgp)
                | (go_at_call 16; refine (ref_put _ bx bH bP h st oi hi64 _ ob _ hRF1.out hrp.out hG.out).mono ?_; rw [hrr.out]; rintro e wq ⟨rfl, hkq, RFq⟩; have hgq := hkq.get hgp.out (fun e => by rcases e with e | e; exact hne.out.2.1 e.symm; exact hne.out.2.2 e.symm); have hS2 : wq.cell? ⟨wr.heap.size, 1, none⟩ = some (.int .i64 oi) ∧ wq.cell? ⟨wr.heap.size, 2, none⟩ = some (.slice Bo ob.length co) := ⟨cell_of_get hgq rfl, cell_of_get hgq rfl⟩; replace hgq := Lib.hid hgq; replace hkq := Lib.hid hkq; replace RFq := Lib.hid RFq))
              all_goals
                have hLt := Lib.hid (hLd.out.put hkp.out HP'.out hF'.out hkq.out RFq.out)
                have hgt := hgq
                clear hS0 hS1 hS2 e1 e2
                go_wp2_with fail
                have hl512 := hLt.out.hp.small
                have hcn5 : h.cnt ≤ 10000 := by omega
                have hcn6 : h.cnt ≤ 1073741824 := by omega
                generalize hwh : wholeS h rr.2 = wh
                generalize hms : missS h rr.2 = ms
                have hne2 : (ms != ms) = false := by simp
                obtain ⟨ws, we⟩ := wh
                have hne3 : (we != we) = false := by simp
                have hne4 : (ws == ws) = true := by simp
                replace hwh := Lib.hid hwh; replace hms := Lib.hid hms; replace hl512 := Lib.hid hl512
                refine (heap_bytes _ bh bm _ h rr.2 hLt.out.hp).mono ?_
                rw [hwh.out]
                rintro e wx ⟨sv, rfl, hbx, hos⟩
                have hLx := hLt.out.below' hbx
                have hgx := (hbx.block _ (lt_of_get hgt.out)).trans hgt.out
                obtain ⟨As, ns, cs, rfl⟩ := hos.row.shp
                have hosx := hos.row
                replace hbx := Lib.hid hbx; replace hLx := Lib.hid hLx; replace hgx := Lib.hid hgx; replace hos := Lib.hid hos; replace hosx := Lib.hid hosx
                go_wp2_with fail
                refine (ref_bytes _ bx bH bP h rr.2 hLx.out.rf hl512.out hcn5).mono ?_
                rw [hwh.out]
                rintro e wy ⟨rfl, hby⟩
                rw [show encS (ws, we).1 = .string ⟨ws.toArray⟩ from rfl]
                have hLy := (hLx.out.below' hby).below' (Below.refl _ wy).drew
                have hgy : wy.drew.heap[wr.heap.size]? = _ := (hby.block _ (lt_of_get hgx.out)).trans hgx.out
                have hosy := (hosx.out.below hby).below (Below.refl _ wy).drew
                have hT0 : wy.cell? ⟨wr.heap.size, 1, none⟩ = some (.int .i64 oi) := cell_of_get hgy rfl
                replace hby := Lib.hid hby; replace hLy := Lib.hid hLy; replace hgy := Lib.hid hgy; replace hosy := Lib.hid hosy
                go_wp2_with fail
                have hT0d : wy.drew.cell? ⟨wr.heap.size, 1, none⟩ = some (.int .i64 oi) := hT0
                go_region_held (fun W => W.cell? ⟨wr.heap.size, 1, none⟩ = some (.int .i64 oi)) (first | exact hT0d | exact hT1 | exact hT2) (first
                  | (go_at_call 12; refine (heap_missing _ bh bm _ h rr.2 hLy.out.hp).mono ?_; rw [hms.out]; rintro e wz ⟨rfl, hbz⟩; have hLz := hLy.out.below' hbz; have hgz := (hbz.block _ (lt_of_get hgy.out)).trans hgy.out; have hosz := hosy.out.below hbz; have hT1 : wz.cell? ⟨wr.heap.size, 1, none⟩ = some (.int .i64 oi) := cell_of_get hgz rfl; replace hbz := Lib.hid hbz; replace hLz := Lib.hid hLz; replace hgz := Lib.hid hgz; replace hosz := Lib.hid hosz)
                  | (go_at_call 19; refine (ref_missing _ bx bH bP h rr.2 hLz.out.rf hcn6).mono ?_; rw [hms.out]; rintro e w' ⟨rfl, rfl⟩)
                  | (go_at_call 13; refine (heap_next _ bh bm _ h rr.2 oi hi64 hLz.out.hp).mono ?_; rintro e wn ⟨rx, rfl, hrx, hbn⟩; have hLn := hLz.out.below' hbn; have hgn := (hbn.block _ (lt_of_get hgz.out)).trans hgz.out; have hosn := hosz.out.below hbn; have hT2 : wn.cell? ⟨wr.heap.size, 1, none⟩ = some (.int .i64 oi) := cell_of_get hgn rfl; have hcvn := hosn.str (src := 22) (dst := 9) Try.underlying22 Try.underlying5 Try.underlying9; have hne5 : (rx != rx) = false := by simp
                     replace hbn := Lib.hid hbn; replace hLn := Lib.hid hLn; replace hgn := Lib.hid hgn; replace hosn := Lib.hid hosn; replace hrx := Lib.hid hrx)
                  | (go_at_call 20; refine (ref_next _ bx bH bP h rr.2 oi hi64 hLn.out.rf hcn6).mono ?_; rintro e w' ⟨⟨ry, rfl, hry⟩, rfl⟩; obtain rfl := hry.one hrx.out))
                all_goals
                  go_wp2
                  exact ⟨⟨k + 1, _, _, by omega, by go_num, hLn⟩, by simp [intOf]; omega⟩
            | false =>
              go_wp2_with fail
              generalize hwb : wr.alloc (.cells #[.int .i64 ok, .int .i64 oi, .slice Bo ob.length co] 44) = wq at *
              clear q0 q1 q2 c0 c1 c2
              have hLt := hLa
              have hgt := hga
              replace hwb := Lib.hid hwb
              have hl512 := hLt.out.hp.small
              have hcn5 : h.cnt ≤ 10000 := by omega
              have hcn6 : h.cnt ≤ 1073741824 := by omega
              generalize hwh : wholeS h st = wh
              generalize hms : missS h st = ms
              have hne2 : (ms != ms) = false := by simp
              obtain ⟨ws, we⟩ := wh
              have hne3 : (we != we) = false := by simp
              have hne4 : (ws == ws) = true := by simp
              replace hwh := Lib.hid hwh; replace hms := Lib.hid hms; replace hl512 := Lib.hid hl512
              refine (heap_bytes _ bh bm _ h st hLt.out.hp).mono ?_
              rw [hwh.out]
              rintro e wx ⟨sv, rfl, hbx, hos⟩
              have hLx := hLt.out.below' hbx
              have hgx := (hbx.block _ (lt_of_get hgt.out)).trans hgt.out
              obtain ⟨As, ns, cs, rfl⟩ := hos.row.shp
              have hosx := hos.row
              replace hbx := Lib.hid hbx; replace hLx := Lib.hid hLx; replace hgx := Lib.hid hgx; replace hos := Lib.hid hos; replace hosx := Lib.hid hosx
              go_wp2_with fail
              refine (ref_bytes _ bx bH bP h st hLx.out.rf hl512.out hcn5).mono ?_
              rw [hwh.out]
              rintro e wy ⟨rfl, hby⟩
              rw [show encS (ws, we).1 = .string ⟨ws.toArray⟩ from rfl]
              have hLy := (hLx.out.below' hby).below' (Below.refl _ wy).drew
              have hgy : wy.drew.heap[wr.heap.size]? = _ := (hby.block _ (lt_of_get hgx.out)).trans hgx.out
              have hosy := (hosx.out.below hby).below (Below.refl _ wy).drew
              have hT0 : wy.cell? ⟨wr.heap.size, 1, none⟩ = some (.int .i64 oi) := cell_of_get hgy rfl
              replace hby := Lib.hid hby; replace hLy := Lib.hid hLy; replace hgy := Lib.hid hgy; replace hosy := Lib.hid hosy
              go_wp2_with fail
              have hT0d : wy.drew.cell? ⟨wr.heap.size, 1, none⟩ = some (.int .i64 oi) := hT0
              go_region_held (fun W => W.cell? ⟨wr.heap.size, 1, none⟩ = some (.int .i64 oi)) (first | exact hT0d | exact hT1 | exact hT2) (first
                | (go_at_call 12; refine (heap_missing _ bh bm _ h st hLy.out.hp).mono ?_; rw [hms.out]; rintro e wz ⟨rfl, hbz⟩; have hLz := hLy.out.below' hbz; have hgz := (hbz.block _ (lt_of_get hgy.out)).trans hgy.out; have hosz := hosy.out.below hbz; have hT1 : wz.cell? ⟨wr.heap.size, 1, none⟩ = some (.int .i64 oi) := cell_of_get hgz rfl; replace hbz := Lib.hid hbz; replace hLz := Lib.hid hLz; replace hgz := Lib.hid hgz; replace hosz := Lib.hid hosz)
                | (go_at_call 19; refine (ref_missing _ bx bH bP h st hLz.out.rf hcn6).mono ?_; rw [hms.out]; rintro e w' ⟨rfl, rfl⟩)
                | (go_at_call 13; refine (heap_next _ bh bm _ h st oi hi64 hLz.out.hp).mono ?_; rintro e wn ⟨rx, rfl, hrx, hbn⟩; have hLn := hLz.out.below' hbn; have hgn := (hbn.block _ (lt_of_get hgz.out)).trans hgz.out; have hosn := hosz.out.below hbn; have hT2 : wn.cell? ⟨wr.heap.size, 1, none⟩ = some (.int .i64 oi) := cell_of_get hgn rfl; have hcvn := hosn.str (src := 22) (dst := 9) Try.underlying22 Try.underlying5 Try.underlying9; have hne5 : (rx != rx) = false := by simp
                   replace hbn := Lib.hid hbn; replace hLn := Lib.hid hLn; replace hgn := Lib.hid hgn; replace hosn := Lib.hid hosn; replace hrx := Lib.hid hrx)
                | (go_at_call 20; refine (ref_next _ bx bH bP h st oi hi64 hLn.out.rf hcn6).mono ?_; rintro e w' ⟨⟨ry, rfl, hry⟩, rfl⟩; obtain rfl := hry.one hrx.out))
              all_goals
                go_wp2
                exact ⟨⟨k + 1, _, _, by omega, by go_num, hLn⟩, by simp [intOf]; omega⟩
    · obtain rfl : k = ops.length := by omega
      go_wp2
      go_ret
      exact ⟨rfl, hL.out.below⟩
theorem chunk_law_all (w : World) (v vl : Value) (xs : List UInt8) (ops : List OpM) (h : Hd) (hr : Row encB w (fun b => b < w.heap.size) v xs) (hops : RowW 3 (rdOp w.heap.size) w (fun b => b < w.heap.size) vl ops) :
    Calls Try.prog 4 #[v, h.v, vl] w (RetB (.bool true) w) := by
  by_cases hs : 2000 < xs.length ∨ 5000 < h.L ∧ h.L ≤ 1073741824
  · exact chunk_law_skip w _ v vl xs h hr hs
  · have h1 : xs.length ≤ 2000 := by omega
    have h2 : ¬ (5000 < h.L ∧ h.L ≤ 1073741824) := fun h => hs (.inr h)
    cases hri : h.right with
    | false => exact chunk_law_no w _ v vl xs h hr h1 h2 hri
    | true =>
      have := ((Hd.right_iff _).1 hri).2.1
      exact chunk_law w v vl xs ops h hr hops h1 (by omega) hri
end Go.Proofs.Ytbgkohfifcfofaa
