/- The walks of strings.SplitSeq and its iterator, at a separator of one byte. -/
import Derived.Test.YtbgkohfifcfofaaDoorProg
import Derived.Test.YtbgkohfifcfofaaDoorRange
import Derived.Test.YtbgkohfifcfofaaDoorSplitP
import Derived.Test.YtbgkohfifcfofaaDoorShelf
import Derived.Shelf.Abstract
import Derived.Shelf.RegionOpen
import Derived.OwnWalkIn
import Derived.TacticsInMore
import Derived.LoopNIn
import Derived.LoopIn
set_option linter.unusedVariables false
set_option linter.unusedSimpArgs false
set_option maxRecDepth 100000
open Go.RowKit Go.Shelf
namespace Go.Proofs.YtbgkohfifcfofaaDoor
open Go.Proofs
attribute [local go_sem] Oper.semAt_some
def strAt (W : World) (b : Nat) : Nat := match W.cell? ⟨b, 0, none⟩ with
  | some (.string x) => x.size
  | _ => 0
theorem strAt_eq {W : World} {b : Nat} {l : List UInt8} {fr : Nat × Nat} {t : TypeId} (h : W.heap[b]? = some (.cells #[.string ⟨l.toArray⟩] t fr)) : strAt W b = l.length := by
  unfold strAt
  rw [cell_of_get h (o := 0) rfl]
  rfl
set_option maxHeartbeats 2000000 in
theorem split_iter (n : Nat) (hn : 1 ≤ n) (c : UInt8) (s : List UInt8) (hs : s.length ≤ 1000000) (bs bsep bsave l : Nat) (U : Nat → Prop) (hU : ∀ k, U k ∨ k = l → k ≠ bs ∧ k ≠ bsep ∧ k ≠ bsave) (hne : bs ≠ bsep ∧ bs ≠ bsave)
    (W : World) (h1 : W.heap[bs]? = some (.cells #[.string ⟨s.toArray⟩] 9 (0, 0))) (h2 : W.heap[bsep]? = some (.cells #[.string ⟨#[c]⟩] 9 (0, 0))) (h3 : W.heap[bsave]? = some (.cells #[.int .i64 0] 3 (0, 0))) :
    Iter (fun x : List UInt8 => x.length ≤ s.length) Tryd.prog n 57 #[.pointer (some ⟨bsep, 0, none⟩), .pointer (some ⟨bs, 0, none⟩), .pointer (some ⟨bsave, 0, none⟩)] (fun x : List UInt8 => #[.string ⟨x.toArray⟩]) U (fun k => k = bs) (fun xs => xs = splitB c s) (fun pre => pre <+: splitB c s) l W := by
  intro J Jx hJ hY h0
  refine callsIn_of_wp Tryd.func57 rfl trivial ?_ rfl
  simp only [Tryd.ntmps57, List.size_toArray, List.length_cons, List.length_nil, Nat.reduceAdd, Nat.reduceSub, Array.replicate_succ, Array.replicate_zero, List.push_toArray, List.append_toArray, List.nil_append, List.cons_append]
  have hc1 := cell_of_get h1 (o := 0) rfl
  have hc2 := cell_of_get h2 (o := 0) rfl
  have hc3 := cell_of_get h3 (o := 0) rfl
  replace h1 := Lib.hid h1; replace h2 := Lib.hid h2; replace h3 := Lib.hid h3; replace hJ := Lib.hid hJ; replace hY := Lib.hid hY; replace hU := Lib.hid hU
  gi_wp2
  gi_loopw [7] (fun _ wr => ∃ (pre : List (List UInt8)) (r : List UInt8), Hid (splitB c s = pre ++ splitB c r) ∧ r.length ≤ s.length ∧ Hid (wr.heap[bs]? = some (.cells #[.string ⟨r.toArray⟩] 9 (0, 0))) ∧
      Hid (wr.heap[bsep]? = some (.cells #[.string ⟨#[c]⟩] 9 (0, 0))) ∧ Hid (wr.heap[bsave]? = some (.cells #[.int .i64 0] 3 (0, 0))) ∧ J pre wr) (fun _ wr => strAt wr bs)
  case atStart => exact ⟨[], s, Lib.hid rfl, Nat.le_refl _, h1, h2, h3, h0⟩
  case round =>
    obtain ⟨pre, r, hsp, hr, g1, g2, g3, hJr⟩ := hrel
    have hc1 := cell_of_get g1.out (o := 0) rfl
    have hc2 := cell_of_get g2.out (o := 0) rfl
    have hc3 := cell_of_get g3.out (o := 0) rfl
    have hf1 := free_of_get g1.out (o := 0)
    rcases index_cases r c with ⟨hix, hsr⟩ | ⟨m, hix, hm, hsr⟩
    · obtain ⟨fn, tmps, assign, body, hy, hR⟩ := hY.out pre r wr hr hJr
      have hfin : splitB c s = pre ++ [r] := by rw [hsp.out, hsr]
      replace hix := Lib.hid hix; replace hsr := Lib.hid hsr; replace hfin := Lib.hid hfin; replace hsp := Lib.hid hsp
      gi_wp2
      refine ⟨trivial, (callsIn_wide.2 (Tryd.strings_Index_one ⟨r.toArray⟩ c _)).mono ?_⟩
      rintro e w1 ⟨rfl, rfl⟩
      rw [show (⟨r.toArray⟩ : ByteArray).data.toList = r from rfl, hix.out]
      gi_wp2
      refine hR.mono ?_
      rintro e W3 (⟨rfl, hJ3, hk3⟩ | ⟨rfl, hJx3⟩)
      · gi_wp2
        go_end0
        exact ⟨⟨_, rfl⟩, .inl ⟨_, hfin.out.symm, hJ3⟩⟩
      · gi_wp2
        go_end0
        exact ⟨⟨_, rfl⟩, .inr ⟨_, by rw [hfin.out]; exact List.prefix_refl _, hJx3⟩⟩
    · have hx0 : (⟨r.toArray⟩ : ByteArray).extract 0 m = ⟨(r.take m).toArray⟩ := by rw [bytes_extract]; simp
      have hx1 : (⟨r.toArray⟩ : ByteArray).extract (m + 1) r.length = ⟨(r.drop (m + 1)).toArray⟩ := bytes_from _ _
      have hsz := bytes_size r
      have hxl : (r.take m).length ≤ s.length := by rw [List.length_take]; omega
      have hl2 : (r.drop (m + 1)).length < r.length := by rw [List.length_drop]; omega
      have hnext : splitB c s = (pre ++ [r.take m]) ++ splitB c (r.drop (m + 1)) := by rw [hsp.out, hsr, List.append_assoc]; rfl
      generalize hrx : r.take m = x at *
      generalize hry : r.drop (m + 1) = y at *
      obtain ⟨fn, tmps, assign, body, hy, hR⟩ := hY.out pre x wr hxl hJr
      replace hix := Lib.hid hix; replace hsr := Lib.hid hsr; replace hnext := Lib.hid hnext; replace hsp := Lib.hid hsp; replace hrx := Lib.hid hrx; replace hry := Lib.hid hry
      gi_wp2
      refine ⟨trivial, (callsIn_wide.2 (Tryd.strings_Index_one ⟨r.toArray⟩ c _)).mono ?_⟩
      rintro e w1 ⟨rfl, rfl⟩
      rw [show (⟨r.toArray⟩ : ByteArray).data.toList = r from rfl, hix.out]
      gi_wp2
      refine hR.mono ?_
      rintro e W3 (⟨rfl, hJ3, hk3⟩ | ⟨rfl, hJx3⟩)
      · have k1 := hk3.get g1.out (fun h => (hU.out _ h).1 rfl)
        have k2 := hk3.get g2.out (fun h => (hU.out _ h).2.1 rfl)
        have k3 := hk3.get g3.out (fun h => (hU.out _ h).2.2 rfl)
        have d1 := cell_of_get k1 (o := 0) rfl
        have d2 := cell_of_get k2 (o := 0) rfl
        have d3 := cell_of_get k3 (o := 0) rfl
        have e1 := free_of_get k1 (o := 0)
        have hset := (Keeps.refl (fun k => k = bs) W3).setCell (a := ⟨bs, 0, none⟩) (fun _ => rfl) (.string ⟨y.toArray⟩)
        have hJn := hJ.out _ _ _ hJ3 hset
        have m1 : strAt w1 bs = r.length := strAt_eq g1.out
        have m2 : strAt (W3.setCell ⟨bs, 0, none⟩ (.string ⟨y.toArray⟩)) bs = y.length := strAt_eq (get_setCell k1 _)
        replace hset := Lib.hid hset; replace k1 := Lib.hid k1; replace k2 := Lib.hid k2; replace k3 := Lib.hid k3; replace hk3 := Lib.hid hk3; replace m1 := Lib.hid m1; replace m2 := Lib.hid m2
        gi_wp2
        go_roundw
        case rel => exact ⟨_, y, hnext, by omega, Lib.hid (get_setCell k1.out _), Lib.hid (hset.out.get k2.out (fun e => hne.1 e.symm)), Lib.hid (hset.out.get k3.out (fun e => hne.2 e.symm)), hJn⟩
        case measure => rw [m1.out, m2.out]; exact hl2
      · gi_wp2
        refine bodyPost_ret (results_none rfl _ _ _) rfl ?_
        exact ⟨⟨_, rfl⟩, .inr ⟨_, ⟨splitB c y, hnext.out.symm⟩, hJx3⟩⟩
/-- What SplitSeq hands back. -/
def SeqVal (bs bsep bsave : Nat) : Value := .func (.func 57) #[] #[.pointer (some ⟨bsep, 0, none⟩), .pointer (some ⟨bs, 0, none⟩), .pointer (some ⟨bsave, 0, none⟩)]
def splitWorld (w : World) (s : List UInt8) (c : UInt8) : World := ((w.alloc (.cells #[.string ⟨s.toArray⟩] 9)).alloc (.cells #[.string ⟨#[c]⟩] 9)).alloc (.cells #[.int .i64 0] 3)
theorem split_seq0 (w : World) (s : List UInt8) (c : UInt8) :
    Calls Tryd.prog 48 #[.string ⟨s.toArray⟩, .string ⟨#[c]⟩, .int .i64 0] w fun e w' => e = .returned (SeqVal w.heap.size (w.heap.size + 1) (w.heap.size + 2)) ∧ w' = splitWorld w s c := by
  go_enter Tryd.func48, Tryd.ntmps48
  go_wp2
  go_ret
  exact ⟨rfl, rfl⟩
theorem split_seq (w : World) (s : List UInt8) (c : UInt8) :
    Calls Tryd.prog 29 #[.string ⟨s.toArray⟩, .string ⟨#[c]⟩] w fun e w' => e = .returned (SeqVal w.heap.size (w.heap.size + 1) (w.heap.size + 2)) ∧ w' = splitWorld w s c := by
  go_enter Tryd.func29, Tryd.ntmps29
  go_wp2_with fail
  refine (split_seq0 w s c).mono ?_
  rintro e w1 ⟨rfl, rfl⟩
  generalize hw : splitWorld w s c = w1
  replace hw := Lib.hid hw
  go_wp2
  go_ret
  exact ⟨rfl, hw.out.symm⟩
theorem splitWorld_at (w : World) (s : List UInt8) (c : UInt8) :
    (splitWorld w s c).heap[w.heap.size]? = some (.cells #[.string ⟨s.toArray⟩] 9 (0, 0)) ∧ (splitWorld w s c).heap[w.heap.size + 1]? = some (.cells #[.string ⟨#[c]⟩] 9 (0, 0)) ∧ (splitWorld w s c).heap[w.heap.size + 2]? = some (.cells #[.int .i64 0] 3 (0, 0)) ∧
    (splitWorld w s c).heap.size = w.heap.size + 3 ∧ Below w.heap.size w (splitWorld w s c) := by
  unfold splitWorld
  have h1 := heap_alloc_new w (.cells #[.string ⟨s.toArray⟩] 9)
  generalize hw1 : w.alloc (.cells #[.string ⟨s.toArray⟩] 9) = w1 at *
  have s1 : w1.heap.size = w.heap.size + 1 := by rw [← hw1]; simp
  have b1 : Below w.heap.size w w1 := by rw [← hw1]; exact (Below.refl _ w).alloc (Nat.le_refl _) _
  have h2 := heap_alloc_new w1 (.cells #[.string ⟨#[c]⟩] 9)
  generalize hw2 : w1.alloc (.cells #[.string ⟨#[c]⟩] 9) = w2 at *
  have s2 : w2.heap.size = w.heap.size + 2 := by rw [← hw2]; simp [s1]
  have b2 : Below w1.heap.size w1 w2 := by rw [← hw2]; exact (Below.refl _ w1).alloc (Nat.le_refl _) _
  have h3 := heap_alloc_new w2 (.cells #[.int .i64 0] 3)
  generalize hw3 : w2.alloc (.cells #[.int .i64 0] 3) = w3 at *
  have s3 : w3.heap.size = w.heap.size + 3 := by rw [← hw3]; simp [s2]
  have b3 : Below w2.heap.size w2 w3 := by rw [← hw3]; exact (Below.refl _ w2).alloc (Nat.le_refl _) _
  rw [s1] at h2
  rw [s2] at h3
  refine ⟨(b3.block _ (by omega)).trans ((b2.block _ (by omega)).trans h1), (b3.block _ (by omega)).trans h2, h3, s3, ?_⟩
  exact (b1.trans (b2.mono (by omega))).trans (b3.mono (by omega))
end Go.Proofs.YtbgkohfifcfofaaDoor
