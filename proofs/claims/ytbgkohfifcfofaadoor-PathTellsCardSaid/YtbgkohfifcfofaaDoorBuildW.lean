/- The walks of a strings.Builder's methods that write. -/
import Derived.Test.YtbgkohfifcfofaaDoorProg
import Derived.Test.YtbgkohfifcfofaaDoorBase
import Derived.Test.YtbgkohfifcfofaaDoorClB
import Derived.Test.YtbgkohfifcfofaaDoorShelf
import Derived.Lib.Builder
set_option linter.unusedVariables false
set_option linter.unusedSimpArgs false
set_option maxRecDepth 100000
open Go.RowKit
namespace Go.Proofs.YtbgkohfifcfofaaDoor
open Go.Proofs
/-- A builder in block bp that has the bytes l; its row lies from base on. -/
structure BAt (base : Nat) (w : World) (bp : Nat) (l : List UInt8) : Prop where
  base_ : base ≤ bp
  at_ : ∃ p v, (p = .pointer none ∨ p = .pointer (some ⟨bp, 0, none⟩)) ∧ w.heap[bp]? = some (.cells #[p, v] 69 (0, 0)) ∧ Own encB 5 w base v l
theorem BAt.lt {base : Nat} {w : World} {bp : Nat} {l : List UInt8} (h : BAt base w bp l) : bp < w.heap.size := by
  obtain ⟨p, v, _, hb, _⟩ := h.at_
  exact lt_of_get hb
theorem BAt.below {base : Nat} {w w1 : World} {bp : Nat} {l : List UInt8} (h : BAt base w bp l) (hk : Below w.heap.size w w1) : BAt base w1 bp l := by
  obtain ⟨p, v, hp, hb, ho⟩ := h.at_
  exact ⟨h.base_, p, v, hp, (hk.block bp h.lt).trans hb, ho.below hk⟩
theorem own_ne {base : Nat} {w : World} {v : Value} {l : List UInt8} (ho : Own encB 5 w base v l) {bp : Nat} {cs : Array Value} {fr : Nat × Nat} (hb : w.heap[bp]? = some (.cells cs 69 fr)) : v.ownBlock ≠ some bp := by
  rcases ho.2 with ⟨rfl, _⟩ | ⟨g, cap, cur, rfl, _, hg, _⟩
  · intro h; cases h
  · intro h
    cases h
    rw [hb] at hg
    simp at hg
theorem BAt.is {base : Nat} {w : World} {bp : Nat} {l : List UInt8} (h : BAt base w bp l) : Lib.IsBuilder 69 5 base bp (Lib.byteCells l) w := by
  obtain ⟨p, v, hp, hb, ho⟩ := h.at_
  have hne := own_ne ho hb
  have ho2 : w.ownsRow base 5 1 v (Lib.byteCells l).length (Lib.byteCells l) := by
    have e : Lib.byteCells l = l.map encB := rfl
    rw [e, List.length_map]
    exact ho
  rcases hp with rfl | rfl
  · exact .inl ⟨h.base_, v, hb, ho2, hne⟩
  · exact .inr ⟨h.base_, v, hb, ho2, hne⟩
def RetBld (v : Value) (base bp : Nat) (l : List UInt8) (w : World) : Ending → World → Prop := fun en w' => en = .returned v ∧ Below base w w' ∧ BAt base w' bp l
theorem copy_fresh (b : Nat) (w : World) (h0 : w.cell? ⟨b, 0, none⟩ = some (.pointer none)) (hsh : w.shape? b = some (69, 2)) (hfz : w.frozen? ⟨b, 0, none⟩ = false) :
    Calls Tryd.prog 52 #[.pointer (some ⟨b, 0, none⟩)] w fun e w' => e = .returned (.tuple #[]) ∧ w' = w.setCell ⟨b, 0, none⟩ (.pointer (some ⟨b, 0, none⟩)) := by
  have hsz : (Tryd.prog.info? 69).map (·.size) = some 2 := by kernel_rfl
  have hlies : liesAt Tryd.prog Tryd.prog.depth 69 (2 / Tryd.prog.cellsOf 69) 0 69 1 = true := by kernel_rfl
  obtain ⟨j, hj, hjs⟩ := Option.map_eq_some_iff.1 hsz
  go_enter Tryd.func52, Tryd.ntmps52
  go_wp2
  rw [Lib.run_to_unsafe w ⟨b, 0, none⟩ Tryd.underlying67 Tryd.underlying94 hj (by rw [hjs]; decide) hsh (Nat.zero_lt_succ 1)]
  simp only [Result.andThen]
  rw [Oper.upon_value]
  go_wp2
  rw [run_callFunc_extern Tryd.func65 (by kernel_rfl) (by kernel_rfl) (by kernel_rfl) (e := Extern.AbiNoEscape.same) (by kernel_rfl)]
  rw [Lib.run_noEscape]
  simp only [Result.andThen]
  rw [Oper.upon_value]
  go_wp2
  rw [Lib.run_from_unsafe w ⟨b, 0, none⟩ Tryd.underlying94 Tryd.underlying67 hj hsh hlies]
  simp only [Result.andThen]
  rw [Oper.upon_value]
  go_wp2
  go_end0
  exact ⟨rfl, rfl⟩
theorem copy_used (b : Nat) (w : World) (h0 : w.cell? ⟨b, 0, none⟩ = some (.pointer (some ⟨b, 0, none⟩))) :
    Calls Tryd.prog 52 #[.pointer (some ⟨b, 0, none⟩)] w fun e w' => e = .returned (.tuple #[]) ∧ w = w' := by
  have hsz : (Tryd.prog.info? 69).map (·.size) = some 2 := by kernel_rfl
  obtain ⟨j, hj, _⟩ := Option.map_eq_some_iff.1 hsz
  go_enter Tryd.func52, Tryd.ntmps52
  go_wp2
  rw [Lib.run_neq_ptr_same w _ Tryd.underlying67 hj]
  go_wp2
  go_end0
  exact ⟨rfl, rfl⟩
/-- Behind copyCheck. -/
def RetCopy (base bp : Nat) (l : List UInt8) (w : World) : Ending → World → Prop := fun en w' =>
  en = .returned (.tuple #[]) ∧ Below base w w' ∧ ∃ v, w'.heap[bp]? = some (.cells #[.pointer (some ⟨bp, 0, none⟩), v] 69 (0, 0)) ∧ Own encB 5 w' base v l
theorem copy_check (w : World) (base bp : Nat) (l : List UInt8) (h : BAt base w bp l) :
    Calls Tryd.prog 52 #[.pointer (some ⟨bp, 0, none⟩)] w (RetCopy base bp l w) := by
  obtain ⟨p, v, hp, hb, ho⟩ := h.at_
  have hc := cell_of_get hb (o := 0) rfl
  rcases hp with rfl | rfl
  · refine (copy_fresh bp w hc (by simp [World.shape?, hb]) (free_of_get hb)).mono ?_
    rintro e w' ⟨rfl, rfl⟩
    refine ⟨rfl, (Below.refl base w).setCell (p := ⟨bp, 0, none⟩) h.base_ _, v, get_setCell hb _, ?_⟩
    refine ho.keep (S := fun b => b = bp) ((Keeps.refl (fun b => b = bp) w).setCell (a := ⟨bp, 0, none⟩) (fun _ => rfl) _) ?_
    rintro b he rfl
    exact own_ne ho hb he
  · refine (copy_used bp w hc).mono ?_
    rintro e w' ⟨rfl, rfl⟩
    exact ⟨rfl, Below.refl _ _, v, hb, ho⟩
/-- Bytes behind what a builder has: the append and the store. -/
theorem bld_put {base : Nat} {w W w1 : World} {bp : Nat} {l l' : List UInt8} {v v1 : Value} (hbase : base ≤ bp) (hb : w.heap[bp]? = some (.cells #[.pointer (some ⟨bp, 0, none⟩), v] 69 (0, 0))) (ho : Own encB 5 w base v l)
    (hW : Below w.heap.size w W) (ha : App encB 5 base W v l' v1 w1) :
    Below base w (w1.setCell ⟨bp, 1, none⟩ v1) ∧ BAt base (w1.setCell ⟨bp, 1, none⟩ v1) bp l' ∧ w1.heap[bp]? = some (.cells #[.pointer (some ⟨bp, 0, none⟩), v] 69 (0, 0)) := by
  have hbp := lt_of_get hb
  have hne := own_ne ho hb
  have hk : Keeps (fun b => v.ownBlock = some b) w w1 := (Keeps.of_below hW _).trans ha.keep (fun b _ h => h)
  have hb1 : w1.heap[bp]? = some (.cells #[.pointer (some ⟨bp, 0, none⟩), v] 69 (0, 0)) := hk.get hb hne
  have hk2 : Keeps (fun b => v.ownBlock = some b ∨ b = bp) w (w1.setCell ⟨bp, 1, none⟩ v1) := (hk.mono (fun b _ h => .inl h)).setCell (a := ⟨bp, 1, none⟩) (fun _ => .inr rfl) _
  refine ⟨hk2.belowB (by omega) ?_, ⟨hbase, _, v1, .inr rfl, get_setCell hb1 _, ?_⟩, hb1⟩
  · rintro b hlt (he | rfl)
    · have := (ho.lt b he).1; omega
    · omega
  · refine ha.own.keep (S := fun b => b = bp) ((Keeps.refl (fun b => b = bp) w1).setCell (a := ⟨bp, 1, none⟩) (fun _ => rfl) _) ?_
    rintro b he rfl
    exact own_ne ha.own hb1 he
set_option maxHeartbeats 1000000 in
theorem write_byte (w : World) (base bp : Nat) (l : List UInt8) (x : UInt8) (h : BAt base w bp l) (hl : l.length ≤ 100000000000) :
    Calls Tryd.prog 34 #[.pointer (some ⟨bp, 0, none⟩), .int .u8 (x.toNat : Int)] w (RetBld .nilIface base bp (l ++ [x]) w) := by
  go_enter Tryd.func34, Tryd.ntmps34
  go_wp2_with fail
  refine (copy_check _ _ _ _ h).mono ?_
  rintro e w1 ⟨rfl, hb1, v, hbp, ho⟩
  have hc0 := cell_of_get hbp (o := 1) rfl
  have hf0 := free_of_get hbp (o := 1)
  have hz : base ≤ w1.heap.size := by have := h.base_; have := lt_of_get hbp; omega
  have hv := ho.below ((Below.refl _ w1).alloc (Nat.le_refl _) (.cells #[.int .u8 (x.toNat : Int)] 5))
  have hu : Src (w1.alloc (.cells #[.int .u8 (x.toNat : Int)] 5)) 1 (.slice (some ⟨w1.heap.size, 0, none⟩) 1 1) [x].length ([x].map encB) := Src.lit w1 1 #[.int .u8 (x.toNat : Int)] 5 1 1 rfl
  have hby : (l.length + [x].length) * 1 ≤ 140737488355328 := by simp; omega
  have hsz : base ≤ (w1.alloc (.cells #[.int .u8 (x.toNat : Int)] 5)).heap.size := by simp; omega
  have hbase := h.base_
  replace hv := Lib.hid hv; replace hu := Lib.hid hu; replace hby := Lib.hid hby; replace hsz := Lib.hid hsz; replace hbp := Lib.hid hbp; replace ho := Lib.hid ho; replace hb1 := Lib.hid hb1
  go_wp2_with (at_builtin; go_must (refine wp_app_own (fun _ => rfl) elB elB.t (by simp) hv.out hu.out hby.out hsz.out rfl _ _ rfl rfl rfl ?_); rintro v' w' ha; have hpp := bld_put hbase hbp.out ho.out ((Below.refl _ w1).alloc (Nat.le_refl _) _) ha; have hc1 := cell_of_get hpp.2.2 (o := 1) rfl; have hf1 := free_of_get hpp.2.2 (o := 1); obtain ⟨A1, n1, c1, rfl⟩ := ha.own.row.shp; replace hpp := Lib.hid hpp; replace ha := Lib.hid ha)
  go_ret
  obtain ⟨h1, h2, _⟩ := hpp.out
  exact ⟨rfl, hb1.out.trans h1, h2⟩
set_option maxHeartbeats 1000000 in
theorem write_string (w : World) (base bp : Nat) (l m : List UInt8) (h : BAt base w bp l) (hl : l.length ≤ 100000000000) (hm : m.length ≤ 100000000000) :
    Calls Tryd.prog 35 #[.pointer (some ⟨bp, 0, none⟩), .string ⟨m.toArray⟩] w (RetBld (.tuple #[.int .i64 (m.length : Int), .nilIface]) base bp (l ++ m) w) := by
  go_enter Tryd.func35, Tryd.ntmps35
  go_wp2_with fail
  refine (copy_check _ _ _ _ h).mono ?_
  rintro e w1 ⟨rfl, hb1, v, hbp, ho⟩
  have hc0 := cell_of_get hbp (o := 1) rfl
  have hf0 := free_of_get hbp (o := 1)
  have hz : base ≤ w1.heap.size := by have := h.base_; have := lt_of_get hbp; omega
  have hu : Src w1 1 (.string ⟨m.toArray⟩) m.length (m.map encB) := Src.str _ rfl
  have hby : (l.length + m.length) * 1 ≤ 140737488355328 := by omega
  have hbase := h.base_
  replace hu := Lib.hid hu; replace hby := Lib.hid hby; replace hz := Lib.hid hz; replace hbp := Lib.hid hbp; replace ho := Lib.hid ho; replace hb1 := Lib.hid hb1
  go_wp2_with (at_builtin; go_must (refine wp_app_own (fun _ => rfl) elB Tryd.underlying9 (by simp) ho.out hu.out hby.out hz.out rfl _ _ rfl rfl rfl ?_); rintro v' w' ha; have hpp := bld_put hbase hbp.out ho.out (Below.refl _ w1) ha; have hc1 := cell_of_get hpp.2.2 (o := 1) rfl; have hf1 := free_of_get hpp.2.2 (o := 1); obtain ⟨A1, n1, c1, rfl⟩ := ha.own.row.shp; replace hpp := Lib.hid hpp; replace ha := Lib.hid ha)
  go_ret2
  obtain ⟨h1, h2, _⟩ := hpp.out
  exact ⟨rfl, hb1.out.trans h1, h2⟩
theorem bld_string (w : World) (base bp : Nat) (l : List UInt8) (h : BAt base w bp l) :
    Calls Tryd.prog 37 #[.pointer (some ⟨bp, 0, none⟩)] w fun e w' => e = .returned (.string ⟨l.toArray⟩) ∧ Below base w w' :=
  Tryd.Builder_String_any base bp l w h.is (by have := h.base_; have := h.lt; omega)
theorem bld_new (w : World) : BAt w.heap.size (w.alloc (.cells #[.pointer none, .slice none 0 0] 69)) w.heap.size [] :=
  ⟨Nat.le_refl _, _, _, .inl rfl, heap_alloc_new w _, Own.nil _ _ _ _⟩
end Go.Proofs.YtbgkohfifcfofaaDoor
