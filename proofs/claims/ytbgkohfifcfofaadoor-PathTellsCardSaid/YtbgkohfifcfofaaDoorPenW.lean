/- The walks of (*tape.Pen).Number and Bytes. -/
import Derived.Test.YtbgkohfifcfofaaDoorProg
import Derived.Test.YtbgkohfifcfofaaDoorBase
import Derived.Test.YtbgkohfifcfofaaDoorClB
import Derived.Test.YtbgkohfifcfofaaDoorTapeP
set_option linter.unusedVariables false
set_option linter.unusedSimpArgs false
set_option maxRecDepth 100000
open Go.RowKit
namespace Go.Proofs.YtbgkohfifcfofaaDoor
open Go.Proofs

/-- A pen in block bp that has written l; its row lies from base on. -/
structure PenAt (base : Nat) (w : World) (bp : Nat) (l : List UInt8) : Prop where
  base_ : base ≤ bp
  at_ : ∃ v, w.heap[bp]? = some (.cells #[v] 47 (0, 0)) ∧ Own encB 5 w base v l
theorem PenAt.lt {base : Nat} {w : World} {bp : Nat} {l : List UInt8} (h : PenAt base w bp l) : bp < w.heap.size := by
  obtain ⟨v, hb, _⟩ := h.at_
  exact lt_of_get hb
theorem PenAt.below {base : Nat} {w w1 : World} {bp : Nat} {l : List UInt8} (h : PenAt base w bp l) (hk : Below w.heap.size w w1) : PenAt base w1 bp l := by
  obtain ⟨v, hb, ho⟩ := h.at_
  exact ⟨h.base_, v, (hk.block bp h.lt).trans hb, ho.below hk⟩
/-- What a writer leaves. -/
def RetP (v : Value) (base bp : Nat) (l : List UInt8) (w : World) : Ending → World → Prop := fun en w' => en = .returned v ∧ Below base w w' ∧ PenAt base w' bp l
theorem byte_val (n : Nat) (h : n < 256) : encB (UInt8.ofNat n) = .int .u8 (n : Int) := by
  simp only [encB, UInt8.toNat_ofNat']
  congr 1
  omega
/-- One byte behind what a pen has: the append and the store. -/
theorem pen_put {base : Nat} {w w1 : World} {bp : Nat} {l : List UInt8} {v v1 : Value} {x : UInt8} (h : PenAt base w bp l) (hb : w.heap[bp]? = some (.cells #[v] 47 (0, 0))) (ho : Own encB 5 w base v l)
    (cs : Array Value) (ha : App encB 5 base (w.alloc (.cells cs 5)) v (l ++ [x]) v1 w1) :
    Below base w (w1.setCell ⟨bp, 0, none⟩ v1) ∧ PenAt base (w1.setCell ⟨bp, 0, none⟩ v1) bp (l ++ [x]) ∧ w1.heap[bp]? = some (.cells #[v] 47 (0, 0)) := by
  have hbp := h.lt
  have hne : ∀ b, v.ownBlock = some b → b ≠ bp := by
    rintro b he rfl
    rcases ho.2 with ⟨rfl, _⟩ | ⟨g, cap, cur, rfl, _, hg, _⟩
    · cases he
    · cases he
      rw [hb] at hg
      simp at hg
  have hk : Keeps (fun b => v.ownBlock = some b) w w1 := ((Keeps.refl _ w).alloc _).trans ha.keep (fun b _ h => h)
  have hb1 : w1.heap[bp]? = some (.cells #[v] 47 (0, 0)) := hk.get hb (fun he => hne bp he rfl)
  have hk2 : Keeps (fun b => v.ownBlock = some b ∨ b = bp) w (w1.setCell ⟨bp, 0, none⟩ v1) := (hk.mono (fun b _ h => .inl h)).setCell (a := ⟨bp, 0, none⟩) (fun _ => .inr rfl) _
  have hbase : base ≤ w.heap.size := by have := h.base_; omega
  refine ⟨hk2.belowB hbase ?_, ⟨h.base_, v1, get_setCell hb1 _, ?_⟩, hb1⟩
  · rintro b hlt (he | rfl)
    · have := (ho.lt b he).1; omega
    · have := h.base_; omega
  · refine ha.own.keep (S := fun b => b = bp) ((Keeps.refl (fun b => b = bp) w1).setCell (a := ⟨bp, 0, none⟩) (fun _ => rfl) _) ?_
    rintro b he rfl
    have hown := ha.own
    rcases hown.2 with ⟨rfl, _⟩ | ⟨g, cap, cur, rfl, _, hg, _⟩
    · cases he
    · cases he
      rw [hb1] at hg
      simp at hg
set_option maxHeartbeats 1000000 in
theorem pen_number (w : World) (base bp : Nat) (l : List UInt8) (n : Int) (k : Nat) (hn : n = (k : Int)) (hk : k ≤ 4611686018427387903) (h : PenAt base w bp l) (hl : l.length ≤ 100000000000) :
    Calls Tryd.prog 41 #[.pointer (some ⟨bp, 0, none⟩), .int .i64 n] w (RetP (.bool true) base bp (l ++ numB k) w) := by
  subst hn
  go_enter Tryd.func41, Tryd.ntmps41
  go_wp2
  have hlen := numB_len9 k hk
  go_loopw [1] (fun i wr => ∃ (q : Nat) (ys : List UInt8), i = .int .i64 q ∧ q ≤ k ∧ Hid (numB k = ys ++ numB q) ∧ Below base w wr ∧ PenAt base wr bp (l ++ ys) ∧ ys.length ≤ 9) (fun i _ => (intOf i).toNat)
  case atStart => exact ⟨k, [], rfl, Nat.le_refl _, Lib.hid rfl, Below.refl _ _, by simpa using h, by simp⟩
  case round =>
    obtain ⟨q, ys, rfl, hq, hnum, hb, hp, hys⟩ := hrel
    obtain ⟨v, hbp, ho⟩ := hp.at_
    have hc0 := cell_of_get hbp (o := 0) rfl
    have hf0 := free_of_get hbp (o := 0)
    have hz : base ≤ wr.heap.size := by have := hp.base_; have := hp.lt; omega
    by_cases h128 : q < 128
    · have hs : numB q = [UInt8.ofNat q] := numB_small q h128
      have hv := ho.below ((Below.refl _ wr).alloc (Nat.le_refl _) (.cells #[.int .u8 (q : Int)] 5))
      have hu : Src (wr.alloc (.cells #[.int .u8 (q : Int)] 5)) 1 (.slice (some ⟨wr.heap.size, 0, none⟩) 1 1) [UInt8.ofNat q].length ([UInt8.ofNat q].map encB) := by
        simp only [List.map_cons, List.map_nil, byte_val q (by omega)]
        exact Src.lit wr 1 #[.int .u8 (q : Int)] 5 1 1 rfl
      have hby : ((l ++ ys).length + [UInt8.ofNat q].length) * 1 ≤ 140737488355328 := by simp; omega
      have hsz : base ≤ (wr.alloc (.cells #[.int .u8 (q : Int)] 5)).heap.size := by simp; omega
      replace hv := Lib.hid hv; replace hu := Lib.hid hu; replace hby := Lib.hid hby; replace hsz := Lib.hid hsz; replace hbp := Lib.hid hbp; replace hs := Lib.hid hs; replace ho := Lib.hid ho
      go_wp2_with (at_builtin; go_must (refine wp_app_own (fun _ => rfl) elB elB.t (by simp) hv.out hu.out hby.out hsz.out rfl _ _ rfl rfl rfl ?_); rintro v' w' ha; have hpp := pen_put hp hbp.out ho.out _ ha; have hc1 := cell_of_get hpp.2.2 (o := 0) rfl; have hf1 := free_of_get hpp.2.2 (o := 0); obtain ⟨A1, n1, c1, rfl⟩ := ha.own.row.shp; replace hpp := Lib.hid hpp; replace ha := Lib.hid ha)
      go_ret
      obtain ⟨h1, h2, _⟩ := hpp.out
      refine ⟨rfl, hb.trans h1, ?_⟩
      rw [hnum.out, hs.out, ← List.append_assoc]
      exact h2
    · have hs : numB q = UInt8.ofNat (128 + q % 128) :: numB (q / 128) := numB_step q h128
      have hv := ho.below ((Below.refl _ wr).alloc (Nat.le_refl _) (.cells #[.int .u8 ((q : Int) % 128 + 128)] 5))
      have hu : Src (wr.alloc (.cells #[.int .u8 ((q : Int) % 128 + 128)] 5)) 1 (.slice (some ⟨wr.heap.size, 0, none⟩) 1 1) [UInt8.ofNat (128 + q % 128)].length ([UInt8.ofNat (128 + q % 128)].map encB) := by
        simp only [List.map_cons, List.map_nil, byte_val (128 + q % 128) (by omega)]
        rw [show ((128 + q % 128 : Nat) : Int) = (q : Int) % 128 + 128 from by omega]
        exact Src.lit wr 1 #[.int .u8 ((q : Int) % 128 + 128)] 5 1 1 rfl
      have hby : ((l ++ ys).length + [UInt8.ofNat (128 + q % 128)].length) * 1 ≤ 140737488355328 := by simp; omega
      have hsz : base ≤ (wr.alloc (.cells #[.int .u8 ((q : Int) % 128 + 128)] 5)).heap.size := by simp; omega
      have hyl : ys.length + 1 ≤ 9 := by
        have h1 : (numB k).length = (ys ++ numB q).length := by rw [hnum.out]
        rw [hs] at h1
        simp at h1
        omega
      replace hv := Lib.hid hv; replace hu := Lib.hid hu; replace hby := Lib.hid hby; replace hsz := Lib.hid hsz; replace hbp := Lib.hid hbp; replace hs := Lib.hid hs; replace ho := Lib.hid ho
      go_wp2_with (at_builtin; go_must (refine wp_app_own (fun _ => rfl) elB elB.t (by simp) hv.out hu.out hby.out hsz.out rfl _ _ rfl rfl rfl ?_); rintro v' w' ha; have hpp := pen_put hp hbp.out ho.out _ ha; have hc1 := cell_of_get hpp.2.2 (o := 0) rfl; have hf1 := free_of_get hpp.2.2 (o := 0); obtain ⟨A1, n1, c1, rfl⟩ := ha.own.row.shp; replace hpp := Lib.hid hpp; replace ha := Lib.hid ha)
      obtain ⟨h1, h2, _⟩ := hpp.out
      go_roundw
      case rel =>
        refine ⟨q / 128, ys ++ [UInt8.ofNat (128 + q % 128)], by go_num, by omega, Lib.hid ?_, hb.trans h1, ?_, by simp; omega⟩
        · rw [hnum.out, hs.out, List.append_assoc]; rfl
        · rw [← List.append_assoc]; exact h2
      case measure => simp [intOf]; omega
end Go.Proofs.YtbgkohfifcfofaaDoor
