/- The walks of (*tape.Tape).Number and Err. -/
import Derived.Test.YtbgkohfifcfofaaDoorTapeW
set_option linter.unusedVariables false
set_option linter.unusedSimpArgs false
set_option maxRecDepth 100000
open Go.RowKit
namespace Go.Proofs.YtbgkohfifcfofaaDoor
open Go.Proofs

theorem TP.number_err (t : TP) (most : Nat) (h : t.er = none) (he : (numGo 0 0 1 t.l).2.2 ≠ 0) : t.number most = (0, ⟨t.l, some (numGo 0 0 1 t.l).2.2⟩) := by
  unfold TP.number; rw [h]; simp only; rw [if_pos he]
theorem TP.number_long (t : TP) (most : Nat) (h : t.er = none) (he : (numGo 0 0 1 t.l).2.2 = 0) (hm : most < (numGo 0 0 1 t.l).1) : t.number most = (0, ⟨t.l, some 13⟩) := by
  unfold TP.number; rw [h]; simp only; rw [if_neg (by omega), if_pos hm]
theorem TP.number_ok (t : TP) (most : Nat) (h : t.er = none) (he : (numGo 0 0 1 t.l).2.2 = 0) (hm : ¬ most < (numGo 0 0 1 t.l).1) : t.number most = ((numGo 0 0 1 t.l).1, ⟨t.l.drop (numGo 0 0 1 t.l).2.1, none⟩) := by
  unfold TP.number; rw [h]; simp only; rw [if_neg (by omega), if_neg hm]
theorem RetT.of_eq {v v' : Value} {bt : Nat} {F : Nat → Prop} {t t' : TP} {w : World} {en : Ending} {w' : World} (h : RetT v bt F t w en w') (hv : v = v') (ht : t = t') : RetT v' bt F t' w en w' := by
  subst hv ht; exact h

/-- The tape moved on. -/
theorem tape_moved {w : World} {F : Nat → Prop} {bt : Nat} {t : TP} {v v' : Value} {l' : List UInt8} (h : TapeAt F w bt t) (hb : w.heap[bt]? = some (.cells #[v, .nilIface] 57 (0, 0))) (hr : Row encB w F v' l') (hl : l'.length ≤ 1000000000000) :
    Keeps (fun b => b = bt) w (w.setCell ⟨bt, 0, none⟩ v') ∧ ∃ F' : Nat → Prop, TapeAt F' (w.setCell ⟨bt, 0, none⟩ v') bt ⟨l', none⟩ ∧ ∀ b, F' b → F b ∨ w.heap.size ≤ b := by
  have hk : Keeps (fun b => b = bt) w (w.setCell ⟨bt, 0, none⟩ v') := (Keeps.refl (fun b => b = bt) w).setCell (a := ⟨bt, 0, none⟩) (fun _ => rfl) _
  refine ⟨hk, F, TapeAt.made h.out (fun b hb => Nat.lt_of_lt_of_le (h.lt b hb) hk.size) (get_setCell hb _) (hr.keep hk (fun b hb he => h.out (he ▸ hb))) (show ErrIs _ F .nilIface (erL none) from rfl) hl, fun b hb => .inl hb⟩
set_option maxHeartbeats 1000000 in
theorem tape_number (w : World) (F : Nat → Prop) (bt : Nat) (t : TP) (most : Int) (m : Nat) (hm : most = (m : Int)) (hm2 : m ≤ 4611686018427387903) (h : TapeAt F w bt t) :
    Calls Tryd.prog 26 #[.pointer (some ⟨bt, 0, none⟩), .int .i64 most] w (RetT (.int .i64 ((t.number m).1 : Int)) bt F (t.number m).2 w) := by
  obtain ⟨v, ev, hb, hrow, hev⟩ := h.at_
  subst hm
  cases her : t.er with
  | some k =>
    rw [her] at hev
    obtain ⟨bf, bv, rfl, hf, hbf, _⟩ := hev
    have hres : t.number m = (0, t) := by unfold TP.number; rw [her]
    have hc1 : w.cell? ⟨bt, 1, none⟩ = some (.iface 97 (.pointer (some ⟨bf, 0, none⟩))) := cell_of_get hb rfl
    rw [hres]
    clear hbf hb hrow hm2
    replace hres := Lib.hid hres
    replace her := Lib.hid her
    go_enter Tryd.func26, Tryd.ntmps26
    go_wp2
    go_ret
    exact ⟨rfl, Keeps.refl _ _, F, h, fun b hb => .inl hb⟩
  | none =>
    rw [her] at hev
    obtain rfl : ev = .nilIface := hev
    have hc1 : w.cell? ⟨bt, 1, none⟩ = some .nilIface := cell_of_get hb rfl
    have hc0 : w.cell? ⟨bt, 0, none⟩ = some v := cell_of_get hb rfl
    have hfr : w.frozen? ⟨bt, 0, none⟩ = false := free_of_get hb
    have hlt := h.btlt
    have herr := numGo_err t.l 0 0 1
    have hlen := numGo_len t.l 0 0 1
    have hnlt := numGo_lt t.l 0 0 (by omega) (by decide)
    have n1 := TP.number_err t m her
    have n2 := TP.number_long t m her
    have n3 := TP.number_ok t m her
    generalize hg : numGo 0 0 1 t.l = r at *
    obtain ⟨n, k, e⟩ := r
    simp only at *
    replace hg := Lib.hid hg
    replace her := Lib.hid her
    replace hb := Lib.hid hb
    replace n1 := Lib.hid n1; replace n2 := Lib.hid n2; replace n3 := Lib.hid n3; replace hlen := Lib.hid hlen
    by_cases he : e = 0
    · subst he
      by_cases hnm : m < n
      · rw [n2.out (by simp) hnm]
        go_enter Tryd.func26, Tryd.ntmps26
        go_wp2_with fail
        refine (tape_number_ahead _ _ _ _ h).mono ?_
        rintro en w1 ⟨rfl, rfl⟩
        rw [hg.out]
        go_wp2_with fail
        refine (tape_fail_new _ _ _ _ 13 h her.out rfl).mono ?_
        rintro en w2 ⟨rfl, hk, hT⟩
        go_wp2
        go_ret
        exact ⟨rfl, hk, hT⟩
      · obtain ⟨hk1, hk2⟩ := hlen.out (by simp)
        obtain ⟨A, c, rfl, hc3, hc4⟩ := hrow.shape
        have hdrop := hrow.drop k (by omega)
        have hsm := h.small
        have hk3 : k ≤ c := by omega
        have hc5 : c ≤ 9223372036854775807 := by simp only [maxLen] at hc4; omega
        replace hrow := Lib.hid hrow
        replace hdrop := Lib.hid hdrop
        rw [n3.out (by simp) hnm]
        have hl' : (t.l.drop k).length ≤ 1000000000000 := by rw [List.length_drop]; omega
        have hmove := fun v' (hr : Row encB w F v' (t.l.drop k)) => tape_moved h hb.out hr hl'
        replace hmove := Lib.hid hmove
        by_cases hck : c = k
        all_goals
          have hd := hdrop.out
          simp only [hck, if_true, if_false] at hd
          replace hd := Lib.hid hd
          go_enter Tryd.func26, Tryd.ntmps26
          go_wp2_with fail
          refine (tape_number_ahead _ _ _ _ h).mono ?_
          rintro en w1 ⟨rfl, rfl⟩
          rw [hg.out]
          go_wp2
          go_ret
          refine ⟨rfl, hmove.out _ ?_⟩
          first | exact hd.out | (rw [← hck] at hd ⊢; exact hd.out) | (have := hd.out; simpa [hck] using this)
    · have he0 : ((e : Int) == 0) = false := by simp only [beq_eq_false_iff_ne, ne_eq]; omega
      have he1 : ((e : Int) != 0) = true := by simp only [bne_iff_ne, ne_eq]; omega
      rw [n1.out he]
      go_enter Tryd.func26, Tryd.ntmps26
      go_wp2_with fail
      refine (tape_number_ahead _ _ _ _ h).mono ?_
      rintro en w1 ⟨rfl, rfl⟩
      rw [hg.out]
      go_wp2_with fail
      refine (tape_fail_new _ _ _ _ e h her.out he0).mono ?_
      rintro en w2 ⟨rfl, hk, hT⟩
      go_wp2
      go_ret
      exact ⟨rfl, hk, hT⟩
/-- An error that is there already. -/
def RetErr (F : Nat → Prop) (l : List (List UInt8 × Int)) (w : World) : Ending → World → Prop := fun en w' => ∃ ev, en = .returned ev ∧ w = w' ∧ ErrIs w F ev l
theorem tape_err (w : World) (F : Nat → Prop) (bt : Nat) (t : TP) (h : TapeAt F w bt t) :
    Calls Tryd.prog 27 #[.pointer (some ⟨bt, 0, none⟩)] w (RetErr F (erL t.er) w) := by
  obtain ⟨v, ev, hb, hrow, hev⟩ := h.at_
  have hc1 : w.cell? ⟨bt, 1, none⟩ = some ev := cell_of_get hb rfl
  rcases hev.shape with ⟨rfl, h0⟩ | ⟨⟨a, rfl⟩, h0⟩
  all_goals
    replace hev := Lib.hid hev
    replace h0 := Lib.hid h0
    clear hb hrow h
    go_enter Tryd.func27, Tryd.ntmps27
    go_wp2
    go_ret
    exact ⟨_, rfl, rfl, hev.out⟩
end Go.Proofs.YtbgkohfifcfofaaDoor
