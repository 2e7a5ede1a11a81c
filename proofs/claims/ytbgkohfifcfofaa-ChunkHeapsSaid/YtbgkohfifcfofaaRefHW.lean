/- Heaps of chunks: the reference's. -/
import Derived.Test.YtbgkohfifcfofaaHeapR
set_option linter.unusedVariables false
set_option linter.unusedSimpArgs false
set_option maxRecDepth 100000
open Go.RowKit
namespace Go.Proofs.Ytbgkohfifcfofaa
open Go.Proofs

/-- The reference's heap, in blocks bx, bH, bP. -/
structure RefAt (w : World) (bx bH bP : Nat) (h : Hd) (st : St) : Prop where
  head : w.heap[bx]? = some (.cells #[.int .i64 h.L, .int .i64 h.S, .int .i64 h.D, .slice (some ⟨bH, 0, none⟩) h.cnt h.cnt, .slice (some ⟨bP, 0, none⟩) h.cnt h.cnt] 66 (0, 0))
  has : w.heap[bH]? = some (.cells (st.map fun o => .bool o.isSome).toArray 4 (0, 0))
  part : w.heap[bP]? = some (.cells (st.map fun o => encS (o.getD [])).toArray 9 (0, 0))
  len : st.length = h.cnt
  ne : bx ≠ bH ∧ bx ≠ bP ∧ bH ≠ bP
theorem RefAt.keep {w w1 : World} {S : Nat → Prop} {bx bH bP : Nat} {h : Hd} {st : St} (H : RefAt w bx bH bP h st) (hk : Keeps S w w1) (h1 : ¬ S bx) (h2 : ¬ S bH) (h3 : ¬ S bP) : RefAt w1 bx bH bP h st :=
  ⟨hk.get H.head h1, hk.get H.has h2, hk.get H.part h3, H.len, H.ne⟩
theorem RefAt.below {w w1 : World} {bx bH bP : Nat} {h : Hd} {st : St} (H : RefAt w bx bH bP h st) (hk : Below w.heap.size w w1) : RefAt w1 bx bH bP h st :=
  H.keep (Keeps.of_below hk NoB) (fun h => h) (fun h => h) (fun h => h)
def RetRefNew (h : Hd) (w : World) : Ending → World → Prop := fun e w' => ∃ bx bH bP, e = .returned (.pointer (some ⟨bx, 0, none⟩)) ∧ Below w.heap.size w w' ∧ w.heap.size ≤ bx ∧ w.heap.size ≤ bH ∧ w.heap.size ≤ bP ∧ RefAt w' bx bH bP h (List.replicate h.cnt none)
theorem made_one (v : Value) (n : Nat) : madeCells #[v] n = (List.replicate n v).toArray := by
  apply Array.ext
  · simp [madeCells]
  · intro i h1 h2
    simp [madeCells, Nat.mod_one]
theorem make_B (n : Nat) (hn : n ≤ 1073741824) (W : World) : (Instr.makeSlice 63 (.int .i64 (n : Int)) (.int .i64 (n : Int))).run Try.prog W = .ok (.slice (some ⟨W.heap.size, 0, none⟩) n n) (W.alloc (.cells (List.replicate n (.bool false)).toArray 4)) := by
  obtain ⟨i, hi, hzz⟩ := Option.map_eq_some_iff.1 (show (Try.prog.info? 4).map (fun i => (i.zero, i.size, i.bytes)) = some (some (.bool false), 1, 1) by kernel_rfl)
  simp only [Prod.mk.injEq] at hzz
  obtain ⟨hz0, hz1, hz2⟩ := hzz
  rw [run_make W _ 4 i (.bool false) Try.underlying63 hi hz0 .i64 .i64 n n (by omega) (by omega) (by rw [hz2]; omega) (by omega), hz1, show (Value.bool false).cells = #[.bool false] from rfl, made_one]
  simp
theorem make_S (n : Nat) (hn : n ≤ 1073741824) (W : World) : (Instr.makeSlice 64 (.int .i64 (n : Int)) (.int .i64 (n : Int))).run Try.prog W = .ok (.slice (some ⟨W.heap.size, 0, none⟩) n n) (W.alloc (.cells (List.replicate n (.string ⟨#[]⟩)).toArray 9)) := by
  obtain ⟨i, hi, hzz⟩ := Option.map_eq_some_iff.1 (show (Try.prog.info? 9).map (fun i => (i.zero, i.size, i.bytes)) = some (some (.string ⟨#[]⟩), 1, 16) by kernel_rfl)
  simp only [Prod.mk.injEq] at hzz
  obtain ⟨hz0, hz1, hz2⟩ := hzz
  rw [run_make W _ 9 i (.string ⟨#[]⟩) Try.underlying64 hi hz0 .i64 .i64 n n (by omega) (by omega) (by rw [hz2]; omega) (by omega), hz1, show (Value.string ⟨#[]⟩).cells = #[.string ⟨#[]⟩] from rfl, made_one]
  simp
/-- While the reference's heap is made. -/
def Mk (n : Nat) (h : Hd) (W : World) : Prop := W.cell? ⟨n, 0, none⟩ = some (.int .i64 h.L) ∧ W.cell? ⟨n, 1, none⟩ = some (.int .i64 h.S) ∧ W.cell? ⟨n, 2, none⟩ = some (.int .i64 h.D)
theorem Mk.below {n : Nat} {h : Hd} {W W1 : World} (hm : Mk n h W) (hb : Below W.heap.size W W1) : Mk n h W1 := by
  have hl := World.block_lt_of_cell? _ _ hm.1
  exact ⟨(hb.cell (p := ⟨n, 0, none⟩) hl).trans hm.1, (hb.cell (p := ⟨n, 1, none⟩) hl).trans hm.2.1, (hb.cell (p := ⟨n, 2, none⟩) hl).trans hm.2.2⟩
theorem Mk.alloc {n : Nat} {h : Hd} {W : World} (hm : Mk n h W) (o : Obj) : Mk n h (W.alloc o) := hm.below ((Below.refl _ W).alloc (Nat.le_refl _) o)
def oH (h : Hd) : Obj := .cells (Array.replicate h.cnt (.bool false)) 4 (0, 0)
def oP (h : Hd) : Obj := .cells (Array.replicate h.cnt (.string ⟨#[]⟩)) 9 (0, 0)
def oX (h : Hd) (bH bP : Nat) : Obj := .cells #[.int .i64 h.L, .int .i64 h.S, .int .i64 h.D, .slice (some ⟨bH, 0, none⟩) h.cnt h.cnt, .slice (some ⟨bP, 0, none⟩) h.cnt h.cnt] 66 (0, 0)
theorem fin0 {w W : World} {h : Hd} {bx bH bP : Nat} (hbx : bx = W.heap.size) (hb : Below w.heap.size w W) (hH : W.heap[bH]? = some (oH h)) (hP : W.heap[bP]? = some (oP h)) (h1 : w.heap.size ≤ bH) (h2 : w.heap.size ≤ bP) (hne : bH ≠ bP) :
    RetRefNew h w (.returned (.pointer (some ⟨bx, 0, none⟩))) (W.alloc (oX h bH bP)) := by
  subst hbx
  have lH := lt_of_get hH
  have lP := lt_of_get hP
  have hk : Below W.heap.size W (W.alloc (oX h bH bP)) := (Below.refl _ W).alloc (Nat.le_refl _) _
  refine ⟨W.heap.size, bH, bP, rfl, hb.alloc hb.size _, hb.size, h1, h2, ⟨heap_alloc_new W _, ?_, ?_, by simp, by omega, by omega, hne⟩⟩
  · rw [hk.block _ lH, hH]; simp [oH]
  · rw [hk.block _ lP, hP]; simp [oP, encS]
section
variable {w w0 wa wb : World} {h : Hd} {bx bH bP : Nat}
theorem fin1 (h0 : Below w.heap.size w w0) (ha : Below w0.drew.heap.size w0.drew wa) (hb : Below (wa.alloc (oH h)).heap.size (wa.alloc (oH h)) wb) (hbx : bx = wb.heap.size + 1) :
    RetRefNew h w (.returned (.pointer (some ⟨bx, 0, none⟩))) ((wb.alloc (oP h)).alloc (oX h wa.heap.size wb.heap.size)) := by
  have a1 : Below w.heap.size w wa := h0.drew.trans (ha.mono h0.size)
  have s1 := a1.size
  have a2 : Below w.heap.size w wb := (a1.alloc a1.size (oH h)).trans (hb.mono (by simp; omega))
  have s2 := hb.size
  simp at s2
  have g1 := (hb.block wa.heap.size (by simp)).trans (heap_alloc_new wa (oH h))
  have g2 := (((Below.refl _ wb).alloc (Nat.le_refl _) (oP h)).block wa.heap.size (by omega)).trans g1
  exact fin0 (by simp; omega) (a2.alloc a2.size _) g2 (heap_alloc_new wb _) s1 (by omega) (by omega)
theorem fin2 (h0 : Below w.heap.size w w0) (ha : Below w0.drew.heap.size w0.drew wa) (hb : Below wa.heap.size wa wb) (hbx : bx = wb.heap.size + 1 + 1) (hbP : bP = wb.heap.size + 1) :
    RetRefNew h w (.returned (.pointer (some ⟨bx, 0, none⟩))) (((wb.alloc (oH h)).alloc (oP h)).alloc (oX h wb.heap.size bP)) := by
  have a1 : Below w.heap.size w wa := h0.drew.trans (ha.mono h0.size)
  have a2 : Below w.heap.size w wb := a1.trans (hb.mono a1.size)
  have s2 := a2.size
  have g1 := heap_alloc_new wb (oH h)
  generalize hq : wb.alloc (oH h) = wc at *
  have hs : wc.heap.size = wb.heap.size + 1 := by rw [← hq]; simp
  have a3 : Below w.heap.size w wc := by rw [← hq]; exact a2.alloc a2.size _
  have g2 := (((Below.refl _ wc).alloc (Nat.le_refl _) (oP h)).block wb.heap.size (by omega)).trans g1
  have g3 := heap_alloc_new wc (oP h)
  rw [hs, ← hbP] at g3
  exact fin0 (by simp; omega) (a3.alloc a3.size _) g2 g3 s2 (by omega) (by omega)
theorem fin3 (h0 : Below w.heap.size w w0) (ha : Below w0.drew.heap.size w0.drew wa) (hb : Below wa.heap.size wa wb) (hbx : bx = wb.heap.size + 1 + 1) (hbH : bH = wb.heap.size + 1) :
    RetRefNew h w (.returned (.pointer (some ⟨bx, 0, none⟩))) (((wb.alloc (oP h)).alloc (oH h)).alloc (oX h bH wb.heap.size)) := by
  have a1 : Below w.heap.size w wa := h0.drew.trans (ha.mono h0.size)
  have a2 : Below w.heap.size w wb := a1.trans (hb.mono a1.size)
  have s2 := a2.size
  have g1 := heap_alloc_new wb (oP h)
  generalize hq : wb.alloc (oP h) = wc at *
  have hs : wc.heap.size = wb.heap.size + 1 := by rw [← hq]; simp
  have a3 : Below w.heap.size w wc := by rw [← hq]; exact a2.alloc a2.size _
  have g2 := (((Below.refl _ wc).alloc (Nat.le_refl _) (oH h)).block wb.heap.size (by omega)).trans g1
  have g3 := heap_alloc_new wc (oH h)
  rw [hs, ← hbH] at g3
  exact fin0 (by simp; omega) (a3.alloc a3.size _) g3 g2 (by omega) s2 (by omega)
theorem fin4 (h0 : Below w.heap.size w w0) (ha : Below w0.drew.heap.size w0.drew wa) (hb : Below (wa.alloc (oP h)).heap.size (wa.alloc (oP h)) wb) (hbx : bx = wb.heap.size + 1) :
    RetRefNew h w (.returned (.pointer (some ⟨bx, 0, none⟩))) ((wb.alloc (oH h)).alloc (oX h wb.heap.size wa.heap.size)) := by
  have a1 : Below w.heap.size w wa := h0.drew.trans (ha.mono h0.size)
  have s1 := a1.size
  have a2 : Below w.heap.size w wb := (a1.alloc a1.size (oP h)).trans (hb.mono (by simp; omega))
  have s2 := hb.size
  simp at s2
  have g1 := (hb.block wa.heap.size (by simp)).trans (heap_alloc_new wa (oP h))
  have g2 := (((Below.refl _ wb).alloc (Nat.le_refl _) (oH h)).block wa.heap.size (by omega)).trans g1
  exact fin0 (by simp; omega) (a2.alloc a2.size _) (heap_alloc_new wb _) g2 (by omega) s1 (by omega)
end
set_option maxHeartbeats 4000000 in
theorem ref_new (w : World) (h : Hd) (hr : h.right = true) : Calls Try.prog 14 #[h.v] w (RetRefNew h w) := by
  have hcn : h.cnt ≤ 1073741824 := by
    have h3 := (Hd.cnt_mul hr).2.2
    have h4 := ((Hd.right_iff _).1 hr).2.1
    omega
  have hB := make_B h.cnt hcn
  have hS := make_S h.cnt hcn
  unfold Hd.v
  go_enter Try.func14, Try.ntmps14
  go_wp2
  have hM : Mk w.heap.size h (w.alloc (.cells #[.int .i64 h.L, .int .i64 h.S, .int .i64 h.D] 31)) :=
    ⟨cell_of_get (heap_alloc_new w _) rfl, cell_of_get (heap_alloc_new w _) rfl, cell_of_get (heap_alloc_new w _) rfl⟩
  have hB0 : Below w.heap.size w (w.alloc (.cells #[.int .i64 h.L, .int .i64 h.S, .int .i64 h.D] 31)) := (Below.refl _ w).alloc (Nat.le_refl _) _
  have hsz0 : (w.alloc (.cells #[.int .i64 h.L, .int .i64 h.S, .int .i64 h.D] 31)).heap.size = w.heap.size + 1 := by simp
  generalize w.alloc (.cells #[.int .i64 h.L, .int .i64 h.S, .int .i64 h.D] 31) = w0 at *
  have hMd : Mk w.heap.size h w0.drew := hM.below (Below.refl _ w0).drew
  replace hM := Lib.hid hM; replace hB0 := Lib.hid hB0; replace hsz0 := Lib.hid hsz0
  unfold Mk at hMd
  go_region_held3 (fun W => W.cell? ⟨w.heap.size, 0, none⟩ = some (.int .i64 h.L) ∧ W.cell? ⟨w.heap.size, 1, none⟩ = some (.int .i64 h.S) ∧ W.cell? ⟨w.heap.size, 2, none⟩ = some (.int .i64 h.D)) (first | exact hMd | exact Mk.below (by assumption) (by assumption) | exact Mk.alloc (by assumption) _) (first | (go_at_call 30; refine (ref_count _ h).mono ?_; rintro e wq ⟨rfl, hbq⟩))
  all_goals
    go_wp2
    go_ret
    first
      | exact fin1 hB0.out (by assumption) (by assumption) rfl
      | exact fin2 hB0.out (by assumption) (by assumption) rfl rfl
      | exact fin3 hB0.out (by assumption) (by assumption) rfl rfl
      | exact fin4 hB0.out (by assumption) (by assumption) rfl
end Go.Proofs.Ytbgkohfifcfofaa
