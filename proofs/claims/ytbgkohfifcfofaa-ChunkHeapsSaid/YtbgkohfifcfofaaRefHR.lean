/- Heaps of chunks: the reference's functions. -/
import Derived.Test.YtbgkohfifcfofaaRefHW
import Derived.BigQuiet
import Derived.Lib.ConvBytes
import Derived.Lib.SmallJoins
set_option linter.unusedVariables false
set_option linter.unusedSimpArgs false
set_option maxRecDepth 100000
open Go.RowKit
namespace Go.Proofs.Ytbgkohfifcfofaa
open Go.Proofs

theorem RefAt.cells {w : World} {bx bH bP : Nat} {h : Hd} {st : St} (H : RefAt w bx bH bP h st) :
    w.cell? ⟨bx, 0, none⟩ = some (.int .i64 h.L) ∧ w.cell? ⟨bx, 1, none⟩ = some (.int .i64 h.S) ∧ w.cell? ⟨bx, 2, none⟩ = some (.int .i64 h.D) ∧ w.cell? ⟨bx, 3, none⟩ = some (.slice (some ⟨bH, 0, none⟩) h.cnt h.cnt) ∧ w.cell? ⟨bx, 4, none⟩ = some (.slice (some ⟨bP, 0, none⟩) h.cnt h.cnt) :=
  ⟨cell_of_get H.head rfl, cell_of_get H.head rfl, cell_of_get H.head rfl, cell_of_get H.head rfl, cell_of_get H.head rfl⟩
theorem RefAt.at {w : World} {bx bH bP : Nat} {h : Hd} {st : St} (H : RefAt w bx bH bP h st) {k : Nat} (hk : k < h.cnt) :
    w.cell? ⟨bH, k, none⟩ = some (.bool (elF st k).isSome) ∧ w.cell? ⟨bP, k, none⟩ = some (encS ((elF st k).getD [])) := by
  have hl := H.len
  have e : elF st (k : Int) = st[k]'(by omega) := by
    unfold elF
    rw [if_neg (by omega), show ((k : Int)).toNat = k from by omega, List.getElem?_eq_getElem (by omega)]
    rfl
  rw [e]
  constructor
  · exact cell_of_get H.has (by simp [show k < st.length by omega])
  · exact cell_of_get H.part (by simp [show k < st.length by omega])
def RetRef (bx bH bP : Nat) (h : Hd) (r : Int × St) (w : World) : Ending → World → Prop := fun e w' => e = .returned (.int .i64 r.1) ∧ Keeps (fun b => b = bH ∨ b = bP) w w' ∧ RefAt w' bx bH bP h r.2
theorem RefAt.set {w1 w2 w3 : World} {bx bH bP : Nat} {h : Hd} {st : St} (H : RefAt w1 bx bH bP h st) {k : Nat} (c : List UInt8) (h2 : w2 = w1.setCell ⟨bH, k, none⟩ (.bool true)) (h3 : w3 = (w2.drew).setCell ⟨bP, k, none⟩ (encS c)) :
    Keeps (fun b => b = bH ∨ b = bP) w1 w3 ∧ RefAt w3 bx bH bP h (st.set k (some c)) := by
  subst h2
  have k1 : Keeps (fun b => b = bH) w1 (w1.setCell ⟨bH, k, none⟩ (.bool true)) := (Keeps.refl (fun b => b = bH) w1).setCell (a := ⟨bH, k, none⟩) (fun _ => rfl) _
  have g1 := get_setCell H.has (.bool true) (o := k)
  have lts := lt_of_get H.head
  have g2 := k1.get H.part (fun e => H.ne.2.2 e.symm)
  have g0 := k1.get H.head H.ne.1
  generalize w1.setCell ⟨bH, k, none⟩ (.bool true) = w2 at *
  have k2 : Keeps (fun b => b = bP) w2 w3 := by subst h3; exact ((Keeps.refl (fun b => b = bP) w2).drew).setCell (a := ⟨bP, k, none⟩) (fun _ => rfl) _
  refine ⟨(k1.mono (fun b _ h => .inl h)).trans k2 (fun b _ h => .inr h), k2.get g0 H.ne.2.1, ?_, ?_, by rw [List.length_set, H.len], H.ne⟩
  · rw [k2.get g1 H.ne.2.2, List.map_set]
    simp
  · subst h3
    have g3 : w2.drew.heap[bP]? = _ := g2
    rw [get_setCell g3, List.map_set]
    simp
set_option maxHeartbeats 2000000 in
theorem ref_put_range (w : World) (bx bH bP : Nat) (h : Hd) (st : St) (i : Int) (hi64 : I64h i) (v : Value) (c : List UInt8) (G : Nat → Prop) (H : RefAt w bx bH bP h st) (hv : Row encB w G v c) (hneg : h.len i < 0) :
    Calls Try.prog 16 #[.pointer (some ⟨bx, 0, none⟩), .int .i64 i, v] w (RetRef bx bH bP h (37, st) w) := by
  obtain ⟨c0, c1, c2, c3, c4⟩ := H.cells
  generalize hln : h.len i = ln at *
  replace hln := Lib.hid hln; replace hv := Lib.hid hv; replace H := Lib.hid H
  go_enter Try.func16, Try.ntmps16
  go_wp2_with fail
  refine (ref_length w h i hi64).mono ?_
  rintro e w1 ⟨rfl, hb1⟩
  rw [hln.out]
  go_wp2
  go_ret
  exact ⟨rfl, Keeps.of_below hb1 _, H.out.below hb1⟩
set_option maxHeartbeats 2000000 in
theorem ref_put_long (w : World) (bx bH bP : Nat) (h : Hd) (st : St) (i : Int) (hi64 : I64h i) (v : Value) (c : List UInt8) (G : Nat → Prop) (H : RefAt w bx bH bP h st) (hv : Row encB w G v c) (hneg : ¬ h.len i < 0) (hne : (c.length : Int) ≠ h.len i) :
    Calls Try.prog 16 #[.pointer (some ⟨bx, 0, none⟩), .int .i64 i, v] w (RetRef bx bH bP h (13, st) w) := by
  obtain ⟨c0, c1, c2, c3, c4⟩ := H.cells
  generalize hln : h.len i = ln at *
  obtain ⟨A, n0, cc, rfl⟩ := hv.shp
  have hn0 : n0 = c.length := hv.len.1
  subst hn0
  have hnb : ((c.length : Int) != ln) = true := by simpa using hne
  replace hne := Lib.hid hne
  replace hln := Lib.hid hln; replace hv := Lib.hid hv; replace H := Lib.hid H
  go_enter Try.func16, Try.ntmps16
  go_wp2_with fail
  refine (ref_length w h i hi64).mono ?_
  rintro e w1 ⟨rfl, hb1⟩
  rw [hln.out]
  go_wp2
  go_ret
  exact ⟨rfl, Keeps.of_below hb1 _, H.out.below hb1⟩
set_option maxHeartbeats 4000000 in
theorem ref_put_turn (w : World) (bx bH bP : Nat) (h : Hd) (st : St) (i : Int) (hi64 : I64h i) (v : Value) (c : List UInt8) (G : Nat → Prop) (H : RefAt w bx bH bP h st) (hv : Row encB w G v c) (hneg : ¬ h.len i < 0) (hne : (c.length : Int) = h.len i)
    (d : List UInt8) (hd : elF st i = some d) (hdc : (d == c) = false) :
    Calls Try.prog 16 #[.pointer (some ⟨bx, 0, none⟩), .int .i64 i, v] w (RetRef bx bH bP h (41, st) w) := by
  obtain ⟨r1, r2, r3, r4⟩ := len_range h i hneg
  obtain ⟨k, rfl⟩ : ∃ k : Nat, i = k := ⟨i.toNat, by omega⟩
  have hkc : k < h.cnt := by omega
  have hkI : (k : Int) < (h.cnt : Int) := by omega
  obtain ⟨c0, c1, c2, c3, c4⟩ := H.cells
  have hcm := (Hd.cnt_mul r4).2.2
  have hLm := ((Hd.right_iff _).1 r4).2.1
  generalize hln : h.len k = ln at *
  obtain ⟨A, n0, cc, rfl⟩ := hv.shp
  have hn0 : n0 = c.length := hv.len.1
  subst hn0
  have hnb : ((c.length : Int) != ln) = false := by simpa using hne
  replace hne := Lib.hid hne
  replace hln := Lib.hid hln; replace hv := Lib.hid hv; replace H := Lib.hid H; replace hd := Lib.hid hd
  go_enter Try.func16, Try.ntmps16
  go_wp2_with fail
  refine (ref_length w h k hi64).mono ?_
  rintro e w1 ⟨rfl, hb1⟩
  rw [hln.out]
  have H1 := H.out.below hb1
  obtain ⟨d0, d1, d2, d3, d4⟩ := H1.cells
  obtain ⟨e1, e2⟩ := H1.at hkc
  rw [hd.out] at e1 e2
  simp only [Option.isSome_some, Option.getD_some, encS] at e1 e2
  have hv1 := hv.out.below hb1
  have hcv := hv1.str (src := 22) (dst := 9) Try.underlying22 Try.underlying5 Try.underlying9
  have hcvd := fun n => (hv1.below (Below.drewN (Below.refl _ w1) n)).str (src := 22) (dst := 9) Try.underlying22 Try.underlying5 Try.underlying9
  clear c0 c1 c2 c3 c4
  replace hb1 := Lib.hid hb1; replace H1 := Lib.hid H1; replace hv1 := Lib.hid hv1
  go_wp2
  go_quiet (fail)
  go_wp2
  go_ret
  exact ⟨rfl, (Keeps.of_below hb1.out _).drewN _, (H1.out).keep ((Keeps.refl NoB w1).drewN _) (fun h => h) (fun h => h) (fun h => h)⟩
set_option maxHeartbeats 4000000 in
theorem ref_put_new (w : World) (bx bH bP : Nat) (h : Hd) (st : St) (i : Int) (hi64 : I64h i) (v : Value) (c : List UInt8) (G : Nat → Prop) (H : RefAt w bx bH bP h st) (hv : Row encB w G v c) (hneg : ¬ h.len i < 0) (hne : (c.length : Int) = h.len i)
    (hG : ¬ G bH ∧ ¬ G bP) (hd : elF st i = none) :
    Calls Try.prog 16 #[.pointer (some ⟨bx, 0, none⟩), .int .i64 i, v] w (RetRef bx bH bP h (0, st.set i.toNat (some c)) w) := by
  obtain ⟨r1, r2, r3, r4⟩ := len_range h i hneg
  obtain ⟨k, rfl⟩ : ∃ k : Nat, i = k := ⟨i.toNat, by omega⟩
  have hkc : k < h.cnt := by omega
  have hkI : (k : Int) < (h.cnt : Int) := by omega
  obtain ⟨c0, c1, c2, c3, c4⟩ := H.cells
  have hcm := (Hd.cnt_mul r4).2.2
  have hLm := ((Hd.right_iff _).1 r4).2.1
  generalize hln : h.len k = ln at *
  obtain ⟨A, n0, cc, rfl⟩ := hv.shp
  have hn0 : n0 = c.length := hv.len.1
  subst hn0
  have hnb : ((c.length : Int) != ln) = false := by simpa using hne
  replace hne := Lib.hid hne
  replace hln := Lib.hid hln; replace hv := Lib.hid hv; replace H := Lib.hid H; replace hd := Lib.hid hd
  go_enter Try.func16, Try.ntmps16
  go_wp2_with fail
  refine (ref_length w h k hi64).mono ?_
  rintro e w1 ⟨rfl, hb1⟩
  rw [hln.out]
  have H1 := H.out.below hb1
  obtain ⟨d0, d1, d2, d3, d4⟩ := H1.cells
  obtain ⟨e1, e2⟩ := H1.at hkc
  rw [hd.out] at e1 e2
  simp only [Option.isSome_none, Option.getD_none, encS] at e1 e2
  have hv1 := hv.out.below hb1
  have hcv := hv1.str (src := 22) (dst := 9) Try.underlying22 Try.underlying5 Try.underlying9
  have hcvd := fun n => (hv1.below (Below.drewN (Below.refl _ w1) n)).str (src := 22) (dst := 9) Try.underlying22 Try.underlying5 Try.underlying9
  clear c0 c1 c2 c3 c4
  replace hb1 := Lib.hid hb1; replace H1 := Lib.hid H1; replace hv1 := Lib.hid hv1
  have f1 : w1.frozen? ⟨bH, k, none⟩ = false := free_of_get H1.out.has
  go_wp2
  go_quiet (fail)
  go_wp2
  have HD : RefAt (w1.drewN nq) bx bH bP h st := H1.out.keep ((Keeps.refl NoB w1).drewN nq) (fun h => h) (fun h => h) (fun h => h)
  have hvD := (hv1.out).keep ((Keeps.refl NoB w1).drewN nq) (fun _ _ h => h)
  have kD : Keeps NoB w1 (w1.drewN nq) := (Keeps.refl NoB w1).drewN nq
  generalize w1.drewN nq = wd at *
  obtain ⟨W2, hW2⟩ : ∃ W2, W2 = wd.setCell ⟨bH, k, none⟩ (.bool true) := ⟨_, rfl⟩
  rw [← hW2]
  have k1 : Keeps (fun b => b = bH) wd W2 := by rw [hW2]; exact (Keeps.refl (fun b => b = bH) wd).setCell (a := ⟨bH, k, none⟩) (fun _ => rfl) _
  have g2 := k1.get HD.part (fun e => HD.ne.2.2 e.symm)
  have g0 := k1.get HD.head HD.ne.1
  have p4 := cell_of_get g0 (o := 4) rfl
  have f4 := free_of_get g2 (o := k)
  have hcell : ∃ u, W2.cell? ⟨bP, k, none⟩ = some u := ⟨_, k1.cell (HD.at hkc).2 (fun e => HD.ne.2.2 e.symm)⟩
  obtain ⟨u0, hu0⟩ := hcell
  have hv2 := hvD.keep (k1) (fun b hb e => hG.1 (e ▸ hb))
  have hcv2 := (hv2.below (Below.refl _ W2).drew).str (src := 22) (dst := 9) Try.underlying22 Try.underlying5 Try.underlying9
  clear d0 d1 d2 d3 d4 e1 e2 hcv hcvd f1
  replace HD := Lib.hid HD; replace hW2 := Lib.hid hW2; replace k1 := Lib.hid k1; replace g2 := Lib.hid g2; replace g0 := Lib.hid g0; replace hvD := Lib.hid hvD; replace hv2 := Lib.hid hv2; replace kD := Lib.hid kD
  go_region
  all_goals
    go_wp2
    go_ret
    obtain ⟨q1, q2⟩ := HD.out.set (k := k) c hW2.out rfl
    refine ⟨rfl, ?_, ?_⟩
    · exact ((Keeps.of_below hb1.out (fun b => b = bH ∨ b = bP)).trans kD.out (fun b _ h => h.elim)).trans q1 (fun b _ h => h)
    · exact q2
set_option maxHeartbeats 4000000 in
theorem ref_put_same (w : World) (bx bH bP : Nat) (h : Hd) (st : St) (i : Int) (hi64 : I64h i) (v : Value) (c : List UInt8) (G : Nat → Prop) (H : RefAt w bx bH bP h st) (hv : Row encB w G v c) (hneg : ¬ h.len i < 0) (hne : (c.length : Int) = h.len i)
    (hG : ¬ G bH ∧ ¬ G bP) (d : List UInt8) (hd : elF st i = some d) (hdc : (d == c) = true) :
    Calls Try.prog 16 #[.pointer (some ⟨bx, 0, none⟩), .int .i64 i, v] w (RetRef bx bH bP h (0, st.set i.toNat (some c)) w) := by
  obtain ⟨r1, r2, r3, r4⟩ := len_range h i hneg
  obtain ⟨k, rfl⟩ : ∃ k : Nat, i = k := ⟨i.toNat, by omega⟩
  have hkc : k < h.cnt := by omega
  have hkI : (k : Int) < (h.cnt : Int) := by omega
  obtain ⟨c0, c1, c2, c3, c4⟩ := H.cells
  have hcm := (Hd.cnt_mul r4).2.2
  have hLm := ((Hd.right_iff _).1 r4).2.1
  generalize hln : h.len k = ln at *
  obtain ⟨A, n0, cc, rfl⟩ := hv.shp
  have hn0 : n0 = c.length := hv.len.1
  subst hn0
  have hnb : ((c.length : Int) != ln) = false := by simpa using hne
  replace hne := Lib.hid hne
  replace hln := Lib.hid hln; replace hv := Lib.hid hv; replace H := Lib.hid H; replace hd := Lib.hid hd
  go_enter Try.func16, Try.ntmps16
  go_wp2_with fail
  refine (ref_length w h k hi64).mono ?_
  rintro e w1 ⟨rfl, hb1⟩
  rw [hln.out]
  have H1 := H.out.below hb1
  obtain ⟨d0, d1, d2, d3, d4⟩ := H1.cells
  obtain ⟨e1, e2⟩ := H1.at hkc
  rw [hd.out] at e1 e2
  simp only [Option.isSome_some, Option.getD_some, encS] at e1 e2
  have hv1 := hv.out.below hb1
  have hcv := hv1.str (src := 22) (dst := 9) Try.underlying22 Try.underlying5 Try.underlying9
  have hcvd := fun n => (hv1.below (Below.drewN (Below.refl _ w1) n)).str (src := 22) (dst := 9) Try.underlying22 Try.underlying5 Try.underlying9
  clear c0 c1 c2 c3 c4
  replace hb1 := Lib.hid hb1; replace H1 := Lib.hid H1; replace hv1 := Lib.hid hv1
  have f1 : w1.frozen? ⟨bH, k, none⟩ = false := free_of_get H1.out.has
  go_wp2
  go_quiet (fail)
  go_wp2
  have HD : RefAt (w1.drewN nq) bx bH bP h st := H1.out.keep ((Keeps.refl NoB w1).drewN nq) (fun h => h) (fun h => h) (fun h => h)
  have hvD := (hv1.out).keep ((Keeps.refl NoB w1).drewN nq) (fun _ _ h => h)
  have kD : Keeps NoB w1 (w1.drewN nq) := (Keeps.refl NoB w1).drewN nq
  generalize w1.drewN nq = wd at *
  obtain ⟨W2, hW2⟩ : ∃ W2, W2 = wd.setCell ⟨bH, k, none⟩ (.bool true) := ⟨_, rfl⟩
  rw [← hW2]
  have k1 : Keeps (fun b => b = bH) wd W2 := by rw [hW2]; exact (Keeps.refl (fun b => b = bH) wd).setCell (a := ⟨bH, k, none⟩) (fun _ => rfl) _
  have g2 := k1.get HD.part (fun e => HD.ne.2.2 e.symm)
  have g0 := k1.get HD.head HD.ne.1
  have p4 := cell_of_get g0 (o := 4) rfl
  have f4 := free_of_get g2 (o := k)
  have hcell : ∃ u, W2.cell? ⟨bP, k, none⟩ = some u := ⟨_, k1.cell (HD.at hkc).2 (fun e => HD.ne.2.2 e.symm)⟩
  obtain ⟨u0, hu0⟩ := hcell
  have hv2 := hvD.keep (k1) (fun b hb e => hG.1 (e ▸ hb))
  have hcv2 := (hv2.below (Below.refl _ W2).drew).str (src := 22) (dst := 9) Try.underlying22 Try.underlying5 Try.underlying9
  clear d0 d1 d2 d3 d4 e1 e2 hcv hcvd f1
  replace HD := Lib.hid HD; replace hW2 := Lib.hid hW2; replace k1 := Lib.hid k1; replace g2 := Lib.hid g2; replace g0 := Lib.hid g0; replace hvD := Lib.hid hvD; replace hv2 := Lib.hid hv2; replace kD := Lib.hid kD
  go_region
  all_goals
    go_wp2
    go_ret
    obtain ⟨q1, q2⟩ := HD.out.set (k := k) c hW2.out rfl
    refine ⟨rfl, ?_, ?_⟩
    · exact ((Keeps.of_below hb1.out (fun b => b = bH ∨ b = bP)).trans kD.out (fun b _ h => h.elim)).trans q1 (fun b _ h => h)
    · exact q2
theorem ref_put (w : World) (bx bH bP : Nat) (h : Hd) (st : St) (i : Int) (hi64 : I64h i) (v : Value) (c : List UInt8) (G : Nat → Prop) (H : RefAt w bx bH bP h st) (hv : Row encB w G v c) (hG : ¬ G bH ∧ ¬ G bP) :
    Calls Try.prog 16 #[.pointer (some ⟨bx, 0, none⟩), .int .i64 i, v] w (RetRef bx bH bP h (putS h st i c) w) := by
  by_cases hneg : h.len i < 0
  · rw [show putS h st i c = (37, st) from by unfold putS; rw [if_pos hneg]]
    exact ref_put_range w bx bH bP h st i hi64 v c G H hv hneg
  · by_cases hne : (c.length : Int) = h.len i
    · cases hd : elF st i with
      | none =>
        rw [show putS h st i c = (0, st.set i.toNat (some c)) from by unfold putS; rw [if_neg hneg, if_neg (by simpa using hne), hd]]
        exact ref_put_new w bx bH bP h st i hi64 v c G H hv hneg hne hG hd
      | some d =>
        cases hdc : d == c with
        | true =>
          rw [show putS h st i c = (0, st.set i.toNat (some c)) from by unfold putS; rw [if_neg hneg, if_neg (by simpa using hne), hd]; simp only [hdc, if_true]]
          exact ref_put_same w bx bH bP h st i hi64 v c G H hv hneg hne hG d hd hdc
        | false =>
          rw [show putS h st i c = (41, st) from by unfold putS; rw [if_neg hneg, if_neg (by simpa using hne), hd]; simp only [hdc, Bool.false_eq_true, if_false]]
          exact ref_put_turn w bx bH bP h st i hi64 v c G H hv hneg hne d hd hdc
    · rw [show putS h st i c = (13, st) from by unfold putS; rw [if_neg hneg, if_pos hne]]
      exact ref_put_long w bx bH bP h st i hi64 v c G H hv hneg hne
/-- How many miss among the first k. -/
theorem cntS_take (st : St) (k : Nat) (x : Option (List UInt8)) (h : st[k]? = some x) : cntS (st.take (k + 1)) = cntS (st.take k) + if x.isSome then 1 else 0 := by
  unfold cntS
  rw [take_snoc_get h, List.countP_append]
  cases x <;> simp
set_option maxHeartbeats 2000000 in
theorem ref_missing (w : World) (bx bH bP : Nat) (h : Hd) (st : St) (H : RefAt w bx bH bP h st) (hsm : h.cnt ≤ 1073741824) :
    Calls Try.prog 19 #[.pointer (some ⟨bx, 0, none⟩)] w fun e w' => e = .returned (.int .i64 (missS h st)) ∧ w = w' := by
  obtain ⟨c0, c1, c2, c3, c4⟩ := H.cells
  have hl := H.len
  have hms : missS h st = (h.cnt : Int) - (cntS st : Int) := rfl
  have hat := fun k hk => (H.at (k := k) hk).1
  generalize missS h st = ms at *
  generalize h.cnt = n at *
  replace hl := Lib.hid hl; replace H := Lib.hid H; replace hms := Lib.hid hms; replace hat := Lib.hid hat
  go_enter Try.func19, Try.ntmps19
  go_wp2
  go_loop [3, 5, 11] (fun m _ i => ∃ k j : Nat, k ≤ n ∧ j ≤ k ∧ Hid (j + cntS (st.take k) = k) ∧ i = .int .i64 k ∧ m = .int .i64 j) (fun _ _ i => n - (intOf i).toNat)
  case atStart => exact ⟨0, 0, by omega, by omega, Lib.hid (by simp [cntS]), rfl, rfl⟩
  case round =>
    obtain ⟨k, j, hk, hj, hc, rfl, rfl⟩ := hrel
    by_cases hlt : k < n
    · have hcell := hat.out k hlt
      obtain ⟨x, hx⟩ := get_some_of_lt (show k < st.length by have := hl.out; omega)
      have hct := cntS_take st k x hx
      have hex : elF st (k : Int) = x := by
        unfold elF
        rw [if_neg (by omega), show ((k : Int)).toNat = k from by omega, hx]
        rfl
      rw [hex] at hcell
      replace hx := Lib.hid hx; replace hct := Lib.hid hct; replace hex := Lib.hid hex
      cases x with
      | none =>
        simp only [Option.isSome_none] at hcell
        go_wp2
        exact ⟨⟨k + 1, j + 1, by omega, by omega, Lib.hid (by have h1 := hct.out; have h2 := hc.out; simp at h1; omega), by go_num, by go_num⟩, by simp [intOf]; omega⟩
      | some l =>
        simp only [Option.isSome_some] at hcell
        go_wp2
        exact ⟨⟨k + 1, j, by omega, by omega, Lib.hid (by have h1 := hct.out; have h2 := hc.out; simp at h1; omega), by go_num, rfl⟩, by simp [intOf]; omega⟩
    · obtain rfl : k = n := by omega
      have e : st.take k = st := List.take_of_length_le (by have := hl.out; omega)
      have hj' : Hid ((j : Int) = ms) := Lib.hid (by have h1 := hc.out; rw [e] at h1; have := hms.out; omega)
      replace e := Lib.hid e
      go_wp2
      go_ret
      exact ⟨ret_i64 hj'.out, rfl⟩
set_option maxHeartbeats 2000000 in
theorem ref_next (w : World) (bx bH bP : Nat) (h : Hd) (st : St) (i : Int) (hi64 : I64h i) (H : RefAt w bx bH bP h st) (hsm : h.cnt ≤ 1073741824) :
    Calls Try.prog 20 #[.pointer (some ⟨bx, 0, none⟩), .int .i64 i] w fun e w' => (∃ r : Int, e = .returned (.int .i64 r) ∧ NextIs h.cnt st i r) ∧ w = w' := by
  obtain ⟨c0, c1, c2, c3, c4⟩ := H.cells
  have hat := fun k hk => (H.at (k := k) hk).1
  generalize h.cnt = n at *
  replace H := Lib.hid H; replace hat := Lib.hid hat
  unfold I64h at hi64
  go_enter Try.func20, Try.ntmps20
  go_wp2
  go_loop [5, 12] (fun _ b => ∃ k : Nat, k ≤ n ∧ b = .int .i64 k ∧ Hid (∀ j : Nat, j < k → i ≤ j → pr st j = true)) (fun _ b => n - (intOf b).toNat)
  case atStart => exact ⟨0, by omega, rfl, Lib.hid (by intro j hj; omega)⟩
  case round =>
    obtain ⟨k, hk, rfl, hA⟩ := hrel
    by_cases hlt : k < n
    · have hcell := hat.out k hlt
      by_cases hik : i ≤ k
      · cases hp : pr st k with
        | true =>
          have hp' : (elF st (k : Int)).isSome = true := hp
          rw [hp'] at hcell
          replace hp := Lib.hid hp; replace hp' := Lib.hid hp'
          go_wp2
          refine ⟨⟨k + 1, by omega, by go_num, Lib.hid (fun j hj hi => ?_)⟩, by simp [intOf]; omega⟩
          by_cases hjk : j = k
          · rw [hjk]; exact hp.out
          · exact hA.out j (by omega) hi
        | false =>
          have hp' : (elF st (k : Int)).isSome = false := hp
          rw [hp'] at hcell
          replace hp := Lib.hid hp; replace hp' := Lib.hid hp'
          go_wp2
          go_ret
          exact ⟨⟨_, rfl, .inl ⟨k, rfl, hlt, hp.out, hik, hA.out⟩⟩, rfl⟩
      · go_wp2
        refine ⟨⟨k + 1, by omega, by go_num, Lib.hid (fun j hj hi => ?_)⟩, by simp [intOf]; omega⟩
        by_cases hjk : j = k
        · subst hjk; omega
        · exact hA.out j (by omega) hi
    · obtain rfl : k = n := by omega
      go_wp2
      go_loop [6, 35] (fun _ b => ∃ m : Nat, m ≤ k ∧ b = .int .i64 m ∧ Hid (∀ j : Nat, j < m → pr st j = true)) (fun _ b => k - (intOf b).toNat)
      case atStart => exact ⟨0, by omega, rfl, Lib.hid (by intro j hj; omega)⟩
      case round =>
        obtain ⟨m, hm, rfl, hB⟩ := hrel
        by_cases hlm : m < k
        · have hcell := hat.out m hlm
          cases hp : pr st m with
          | true =>
            have hp' : (elF st (m : Int)).isSome = true := hp
            rw [hp'] at hcell
            replace hp := Lib.hid hp; replace hp' := Lib.hid hp'
            go_wp2
            refine ⟨⟨m + 1, by omega, by go_num, Lib.hid (fun j hj => ?_)⟩, by simp [intOf]; omega⟩
            by_cases hjk : j = m
            · rw [hjk]; exact hp.out
            · exact hB.out j (by omega)
          | false =>
            have hp' : (elF st (m : Int)).isSome = false := hp
            rw [hp'] at hcell
            replace hp := Lib.hid hp; replace hp' := Lib.hid hp'
            go_wp2
            go_ret
            exact ⟨⟨_, rfl, .inr (.inl ⟨m, rfl, hlm, hp.out, hA.out, hB.out⟩)⟩, rfl⟩
        · obtain rfl : m = k := by omega
          go_wp2
          go_ret
          exact ⟨⟨_, rfl, .inr (.inr ⟨rfl, hB.out⟩)⟩, rfl⟩
/-- Not all are there. -/
theorem miss_pos {h : Hd} {st : St} (hl : st.length = h.cnt) {k : Nat} (hk : k < h.cnt) (hp : pr st k = false) : 0 < missS h st := by
  have hle : cntS st ≤ st.length := List.countP_le_length
  rcases Nat.lt_or_ge (cntS st) st.length with h1 | h1
  · unfold missS; omega
  · have : cntS st = st.length := by omega
    have h2 := List.countP_eq_length.1 this st[k] (List.getElem_mem (by omega))
    unfold pr elF at hp
    rw [if_neg (by omega), show ((k : Int)).toNat = k from by omega, List.getElem?_eq_getElem (by omega)] at hp
    simp only [Option.join_some] at hp
    rw [h2] at hp
    cases hp
theorem miss_zero {h : Hd} {st : St} (hl : st.length = h.cnt) (hp : ∀ j : Nat, j < h.cnt → pr st j = true) : missS h st = 0 := by
  have : cntS st = st.length := List.countP_eq_length.2 (fun a ha => by
    obtain ⟨k, hk, rfl⟩ := List.getElem_of_mem ha
    have h1 := hp k (by omega)
    unfold pr elF at h1
    rw [if_neg (by omega), show ((k : Int)).toNat = k from by omega, List.getElem?_eq_getElem hk] at h1
    simpa using h1)
  unfold missS
  omega
/-- '[]byte(s)' -/
theorem str_row (P : Program) (src dst e : TypeId) (hs : P.underlying src = some .string) (hd : P.underlying dst = some (.slice e)) (he : P.underlying e = some (.int .u8)) (w : World) (s : List UInt8) (hl : s.length ≤ 100000000000) :
    ∃ v w', (convert src dst (.string ⟨s.toArray⟩)).run P w = .ok v w' ∧ Row encB w' (fun b => w.heap.size ≤ b ∧ b < w'.heap.size) v s ∧ Below w.heap.size w w' := by
  have hc := Lib.run_convert_string_bytes w src dst e ⟨s.toArray⟩ hs hd he
  refine ⟨_, _, hc, ?_, Joins.below_bytesWorld _ w e _ (Nat.le_refl _)⟩
  have hsz : (⟨s.toArray⟩ : ByteArray).size = s.length := rfl
  have hge := grownCap_ge w s.length 0 e
  have hle := grownCap_le_maxLen w s.length 0 e (by simp only [maxLen]; omega)
  refine ⟨some ⟨w.heap.size, 0, none⟩, grownCap w s.length 0 e, rfl, hge, hle, .inr ⟨w.heap.size, 0, rfl, ⟨Nat.le_refl _, by rw [Lib.bytesWorld_size]; omega⟩, fun j x hx => ?_⟩⟩
  have hj := (List.getElem?_eq_some_iff.1 hx).1
  rw [Nat.zero_add, Lib.bytesWorld_cell w e ⟨s.toArray⟩ j (by rw [hsz]; exact hj)]
  simp [encB, hx]
set_option maxHeartbeats 4000000 in
theorem ref_bytes (w : World) (bx bH bP : Nat) (h : Hd) (st : St) (H : RefAt w bx bH bP h st) (hs : ∀ l, some l ∈ st → l.length ≤ 512) (hsm : h.cnt ≤ 10000) :
    Calls Try.prog 18 #[.pointer (some ⟨bx, 0, none⟩)] w (RetB (.tuple #[encS (wholeS h st).1, .int .i64 (wholeS h st).2]) w) := by
  obtain ⟨c0, c1, c2, c3, c4⟩ := H.cells
  have hat := fun k hk => H.at (k := k) hk
  have hl := H.len
  have hw : wholeS h st = if 0 < missS h st then ([], 41) else if digOf (catS st) = h.D then (catS st, 0) else ([], 12) := rfl
  generalize hr : wholeS h st = r at *
  have hmp : ∀ k, k < h.cnt → pr st k = false → 0 < missS h st := fun k hk hp => miss_pos hl hk hp
  have hmz : (∀ j : Nat, j < h.cnt → pr st j = true) → missS h st = 0 := miss_zero hl
  have hcl := fun k => catS_len hs k
  generalize hn : h.cnt = n at *
  replace hn := Lib.hid hn; replace hl := Lib.hid hl; replace hat := Lib.hid hat; replace H := Lib.hid H; replace hr := Lib.hid hr; replace hw := Lib.hid hw; replace hmp := Lib.hid hmp; replace hmz := Lib.hid hmz; replace hcl := Lib.hid hcl
  unfold encS
  go_enter Try.func18, Try.ntmps18
  go_wp2
  go_loop [4, 5, 6, 12] (fun s _ _ b => ∃ k : Nat, k ≤ n ∧ b = .int .i64 k ∧ s = .string ⟨(catS (st.take k)).toArray⟩ ∧ Hid (∀ j : Nat, j < k → pr st j = true)) (fun _ _ _ b => n - (intOf b).toNat)
  case atStart => exact ⟨0, by omega, rfl, rfl, Lib.hid (by intro j hj; omega)⟩
  case round =>
    obtain ⟨k, hk, rfl, rfl, hA⟩ := hrel
    by_cases hlt : k < n
    · obtain ⟨hc1, hc2⟩ := hat.out k hlt
      cases hp : pr st k with
      | false =>
        have hp' : (elF st (k : Int)).isSome = false := hp
        rw [hp'] at hc1
        have hr1 : Hid (r = ([], 41)) := Lib.hid (by rw [hw.out, if_pos (hmp.out k hlt hp)])
        replace hp := Lib.hid hp; replace hp' := Lib.hid hp'; replace hc2 := Lib.hid hc2
        go_wp2
        go_ret2
        rw [hr1.out]
        exact ⟨rfl, Below.refl _ _⟩
      | true =>
        have hp' : (elF st (k : Int)).isSome = true := hp
        rw [hp'] at hc1
        obtain ⟨l, hel⟩ := Option.isSome_iff_exists.1 hp'
        have hst := (elF_ok hel).2.2
        rw [show ((k : Int)).toNat = k from by omega] at hst
        rw [hel] at hc2
        simp only [Option.getD_some, encS] at hc2
        have hsn := catS_snoc hst
        have hl5 := hs l (List.mem_of_getElem? hst)
        have hadd := str_add (P := Try.prog) (catS (st.take k)) l (by have := hcl.out k; omega)
        replace hp := Lib.hid hp; replace hp' := Lib.hid hp'; replace hel := Lib.hid hel; replace hst := Lib.hid hst; replace hsn := Lib.hid hsn
        go_wp2
        refine ⟨⟨k + 1, by omega, by go_num, by rw [hsn.out], Lib.hid (fun j hj => ?_)⟩, by simp [intOf]; omega⟩
        by_cases hjk : j = k
        · rw [hjk]; exact hp.out
        · exact hA.out j (by omega)
    · obtain rfl : k = n := by omega
      have e : st.take k = st := List.take_of_length_le (by have := hl.out; omega)
      have hm0 := hmz.out hA.out
      have hcl1 := hcl.out k
      rw [e] at hcl1 ⊢
      have hw1 := hw.out
      rw [hm0, if_neg (by omega)] at hw1
      generalize catS st = cs at *
      replace hm0 := Lib.hid hm0; replace hw1 := Lib.hid hw1; replace e := Lib.hid e
      have hbd : Below w.heap.size w w.drew := (Below.refl _ w).drew
      obtain ⟨v, wc, hcv, hrow, hbc⟩ := str_row Try.prog 9 22 5 Try.underlying9 Try.underlying22 Try.underlying5 w.drew cs (by omega)
      have hbw : Below w.heap.size w wc := hbd.trans hbc
      have d2 := (H.out.below hbw).cells.2.2.1
      obtain ⟨A, n0, c0', rfl⟩ := hrow.shp
      replace hbd := Lib.hid hbd; replace hrow := Lib.hid hrow; replace hbc := Lib.hid hbc; replace hbw := Lib.hid hbw
      by_cases hd : digOf cs = h.D
      · have hdb : (digOf cs != h.D) = false := by simpa using hd
        have hwv : Hid (r = (cs, 0)) := Lib.hid (by rw [hw1.out, if_pos hd])
        replace hd := Lib.hid hd
        go_wp2
        go_region_with (go_at_call 33; refine (ref_digest _ _ _ cs hrow.out (by omega) (by intro b hb; exact hb.2)).mono ?_; rintro e w3 ⟨rfl, hb3⟩; have d2' := (H.out.below (Below.step hbw.out hb3)).cells.2.2.1; replace hb3 := Lib.hid hb3)
        all_goals
          go_wp2
          go_ret2
          rw [hwv.out]
          exact ⟨rfl, Below.step hbw.out hb3.out⟩
      · have hdb : (digOf cs != h.D) = true := by simpa using hd
        have hwv : Hid (r = ([], 12)) := Lib.hid (by rw [hw1.out, if_neg hd])
        replace hd := Lib.hid hd
        go_wp2
        go_region_with (go_at_call 33; refine (ref_digest _ _ _ cs hrow.out (by omega) (by intro b hb; exact hb.2)).mono ?_; rintro e w3 ⟨rfl, hb3⟩; have d2' := (H.out.below (Below.step hbw.out hb3)).cells.2.2.1; replace hb3 := Lib.hid hb3)
        all_goals
          go_wp2
          go_ret2
          rw [hwv.out]
          exact ⟨rfl, Below.step hbw.out hb3.out⟩
end Go.Proofs.Ytbgkohfifcfofaa
