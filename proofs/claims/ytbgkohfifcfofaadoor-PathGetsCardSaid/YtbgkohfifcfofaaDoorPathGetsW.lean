/- The walk of regencylaw08.PathGets. -/
import Derived.Test.YtbgkohfifcfofaaDoorFirstW
import Derived.Test.YtbgkohfifcfofaaDoorRef8G
import Derived.Test.YtbgkohfifcfofaaDoorTapeLeft
import Derived.Deep.RegionWith
import Derived.Deep.DeepCutAuto
import Derived.BigQuiet
set_option linter.unusedVariables false
set_option linter.unusedSimpArgs false
set_option maxRecDepth 100000
open Go.RowKit
namespace Go.Proofs.YtbgkohfifcfofaaDoor
open Go.Proofs
/-- Two tapes over the same bytes, in blocks of their own. -/
def TwoTapes (l : List UInt8) (w : World) (a b : Value) (wx : World) : Prop :=
  ∃ (bt bx : Nat) (F : Nat → Prop), a = .pointer (some ⟨bt, 0, none⟩) ∧ b = .pointer (some ⟨bx, 0, none⟩) ∧ Below w.heap.size w wx ∧ TapeAt F wx bt ⟨l, none⟩ ∧ RTapeAt wx bx ⟨l, none⟩ ∧ bt ≠ bx ∧ w.heap.size ≤ bt ∧ w.heap.size ≤ bx ∧ ¬ F bx
theorem rtape_new (w : World) (l : List UInt8) (h : l.length ≤ 1000000000000) : RTapeAt (w.alloc (.cells #[.string ⟨l.toArray⟩, .int .i64 0] 28)) w.heap.size ⟨l, none⟩ :=
  ⟨heap_alloc_new w _, by simp, h⟩
theorem two_box {l : List UInt8} {w W w' : World} {bt : Nat} (hl : l.length ≤ 1000000000000) (h0 : Below w.heap.size w W) (hb : Below W.heap.size W w') (hbt : W.heap.size ≤ bt) (hT : TapeAt (fun b => W.heap.size ≤ b ∧ b < bt) w' bt ⟨l, none⟩) :
    TwoTapes l w (.pointer (some ⟨bt, 0, none⟩)) (.pointer (some ⟨w'.heap.size, 0, none⟩)) (w'.alloc (.cells #[.string ⟨l.toArray⟩, .int .i64 0] 28)) := by
  have hlt := hT.btlt
  have h1 := h0.size
  have h2 := hb.size
  have hbb : Below w.heap.size w w' := h0.trans (hb.mono h1)
  exact ⟨bt, w'.heap.size, _, rfl, rfl, hbb.alloc (by omega) _, hT.below ((Below.refl _ w').alloc (Nat.le_refl _) _), rtape_new w' l hl, by omega, by omega, by omega, fun h => by omega⟩
theorem box_two {l : List UInt8} {w W w' : World} {bt : Nat} (hl : l.length ≤ 1000000000000) (h0 : Below w.heap.size w W) (hb : Below (W.alloc (.cells #[.string ⟨l.toArray⟩, .int .i64 0] 28)).heap.size (W.alloc (.cells #[.string ⟨l.toArray⟩, .int .i64 0] 28)) w')
    (hbt : (W.alloc (.cells #[.string ⟨l.toArray⟩, .int .i64 0] 28)).heap.size ≤ bt) (hT : TapeAt (fun b => (W.alloc (.cells #[.string ⟨l.toArray⟩, .int .i64 0] 28)).heap.size ≤ b ∧ b < bt) w' bt ⟨l, none⟩) :
    TwoTapes l w (.pointer (some ⟨bt, 0, none⟩)) (.pointer (some ⟨W.heap.size, 0, none⟩)) w' := by
  have hr := (rtape_new W l hl).below hb
  have h1 := h0.size
  have hs : (W.alloc (.cells #[.string ⟨l.toArray⟩, .int .i64 0] 28)).heap.size = W.heap.size + 1 := by simp
  have hbb : Below w.heap.size w w' := (h0.alloc h1 _).trans (hb.mono (by omega))
  exact ⟨bt, W.heap.size, _, rfl, rfl, hbb, hT, hr, by omega, by omega, by omega, fun h => by omega⟩
set_option maxHeartbeats 2000000 in
theorem path_gets (w : World) (F : Nat → Prop) (v : Value) (l : List UInt8) (hr : Row encB w F v l) (hv : VarW w) (ht : TabW w) :
    Calls Tryd.prog 3 #[v] w (RetB (.bool true) w) := by
  obtain ⟨A, c, rfl, hc1, hc2⟩ := hr.shape
  simp only [maxLen] at hc2
  by_cases hl : l.length ≤ 300
  · generalize hpe : pathGetE ⟨l, none⟩ = pe
    generalize hpl : pathGet ⟨l, none⟩ = pl
    generalize hpt : (pathGetT ⟨l, none⟩).2 = pt
    have hs1 : (pl == pl) = true := by simp
    have hs2 : (((pe : Nat) : Int) == (pe : Int)) = true := by simp
    have hs3 : (((pt.l.length : Nat) : Int) == (pt.l.length : Int)) = true := by simp
    have hsz := bytes_size pt.l
    replace hpe := Lib.hid hpe; replace hpl := Lib.hid hpl; replace hpt := Lib.hid hpt; replace hs1 := Lib.hid hs1
    go_enter Tryd.func3, Tryd.ntmps3
    go_wp2_with fail
    refine (law_first w hv ht).mono ?_
    rintro e w1 ⟨rfl, hb1⟩
    have hr1 := hr.below hb1
    have hnew : ∀ W, Below w1.heap.size w1 W → Calls Tryd.prog 7 #[.slice A l.length c] W (RetTape l W) := fun W hW => tape_new W _ _ l (hr1.below hW) (by omega)
    have hcv : ∀ W, Below w1.heap.size w1 W → (convert 22 9 (.slice A l.length c)).run Tryd.prog W = .ok (.string ⟨l.toArray⟩) W := fun W hW => (hr1.below hW).str Tryd.underlying22 Tryd.underlying5 Tryd.underlying9
    have hcv0 := hcv w1.drew ((Below.refl _ w1).drew)
    replace hnew := Lib.hid hnew; replace hcv := Lib.hid hcv
    go_upto_region 5 with fail
    go_cut [3, 4] (fun a b wx => TwoTapes l w a b wx)
    case first =>
      go_region_with (go_at_call 7; first
        | (refine (hnew.out w1.drew ((Below.refl _ w1).drew)).mono ?_; rintro e w' ⟨bt, rfl, hb, hbt, hT⟩; have hcv1 := hcv.out w' (((Below.refl _ w1).drew).trans hb))
        | (refine (hnew.out (w1.drew.alloc _) (((Below.refl _ w1).drew).alloc (Nat.le_refl _) _)).mono ?_; rintro e w' ⟨bt, rfl, hb, hbt, hT⟩))
      all_goals (go_wp2_with fail; go_meet)
      all_goals first
        | exact two_box (by omega) (hb1.drew) hb hbt hT
        | exact box_two (W := w1.drew) (by omega) (hb1.drew) hb hbt hT
    case rest =>
      obtain ⟨bt, bx, F1, rfl, rfl, hbw, hT, hX, hne, hge1, hge2, hnF⟩ := hcut
      have hbxlt := hX.lt
      have hszw := hbw.size
      replace hbw := Lib.hid hbw; replace hX := Lib.hid hX
      go_wp2_with fail
      refine (path_get wc F1 bt _ hT).mono ?_
      rintro e w2 ⟨p1, rfl, hk2, hp1, F2, hT2, hF2, _⟩
      rw [hpe.out]
      rw [hpl.out] at hp1
      rw [hpt.out] at hT2
      have hX2 := hX.out.keep hk2 (fun h => hne h.symm)
      have hnF2 : ¬ F2 bx := fun h => by
        rcases hF2 bx h with h | h
        · exact hnF h
        · omega
      have hb2 : Below w.heap.size w w2 := hbw.out.trans (hk2.belowB hszw (fun b hb he => by omega))
      obtain ⟨A2, n2, c2, rfl⟩ := hp1.row.shp
      have hsz2 := hk2.size
      replace hb2 := Lib.hid hb2; replace hk2 := Lib.hid hk2; replace hp1 := Lib.hid hp1; replace hF2 := Lib.hid hF2; replace hT2 := Lib.hid hT2
      go_wp2_with fail
      refine (ref8_get w2 bx _ hX2).mono ?_
      rintro e w3 ⟨p2, rfl, hk3, hp2, hX3⟩
      rw [hpe.out]
      rw [hpl.out] at hp2
      rw [hpt.out] at hX3
      have hT3 := hT2.out.keep hk3 (fun b hf he => hnF2 (he ▸ hf)) (fun he => hne he)
      have hp13 := hp1.out.keep hk3 (fun b hb he => by have := (hp1.out.lt b hb).1; omega)
      have hb3 : Below w.heap.size w w3 := hb2.out.trans (hk3.belowB hb2.out.size (fun b hb he => by omega))
      obtain ⟨A3, n3, c3, rfl⟩ := hp2.row.shp
      have hcx := cell_of_get hX3.at_ (o := 0) rfl
      replace hb3 := Lib.hid hb3; replace hk3 := Lib.hid hk3; replace hp2 := Lib.hid hp2; replace hX3 := Lib.hid hX3; replace hp13 := Lib.hid hp13; replace hT3 := Lib.hid hT3
      go_wp2_with fail
      have hsame : ∀ n, Calls Tryd.prog 10 #[.slice A2 n2 c2, .slice A3 n3 c3] (w3.drewN n) (RetQ (.bool true) (w3.drewN n)) := by
        intro n
        have hd := Below.drewN (Below.refl w3.heap.size w3) n
        have h := ref8_sameQ (w3.drewN n) _ _ _ _ pl pl (hp13.out.row.below hd) (hp2.out.row.below hd)
        rw [hs1.out] at h
        exact h
      have hleft : ∀ n, Calls Tryd.prog 11 #[.pointer (some ⟨bt, 0, none⟩)] (w3.drewN n) fun e w' => e = .returned (.int .i64 (pt.l.length : Int)) ∧ w' = w3.drewN n := by
        intro n
        refine (tape_left (w3.drewN n) _ bt _ (hT3.out.below (Below.drewN (Below.refl w3.heap.size w3) n))).mono ?_
        rintro e w4 ⟨rfl, rfl⟩
        exact ⟨rfl, rfl⟩
      replace hsame := Lib.hid hsame; replace hleft := Lib.hid hleft
      go_quiet ((first | (go_at_call 10; exact Calls.quiet_of (hsame.out _)) | (go_at_call 11; exact Calls.quiet_of_same (hleft.out _))))
      go_wp2
      go_ret
      exact ⟨rfl, hb3.out.trans (Below.drewN (Below.refl _ w3) _)⟩
  · go_enter Tryd.func3, Tryd.ntmps3
    go_wp2_with fail
    refine (law_first w hv ht).mono ?_
    rintro e w1 ⟨rfl, hb1⟩
    go_wp2
    go_ret
    exact ⟨rfl, hb1⟩
theorem path_gets_all (w : World) (v : Value) (l : List UInt8) (hr : Row encB w (fun b => b < w.heap.size) v l) (hv : VarW w) (ht : TabW w) :
    Calls Tryd.prog 3 #[v] w (RetB (.bool true) w) := path_gets w _ v l hr hv ht
end Go.Proofs.YtbgkohfifcfofaaDoor
