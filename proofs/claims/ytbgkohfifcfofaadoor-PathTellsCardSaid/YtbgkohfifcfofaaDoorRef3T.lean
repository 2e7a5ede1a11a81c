/- The walk of (*regencyref03.Tape).Number. -/
import Derived.Test.YtbgkohfifcfofaaDoorProg
import Derived.Test.YtbgkohfifcfofaaDoorBase
import Derived.Test.YtbgkohfifcfofaaDoorRef3P
set_option linter.unusedVariables false
set_option linter.unusedSimpArgs false
set_option maxRecDepth 100000
open Go.RowKit
namespace Go.Proofs.YtbgkohfifcfofaaDoor
open Go.Proofs
structure RTapeAt (w : World) (bx : Nat) (t : TP) : Prop where
  at_ : w.heap[bx]? = some (.cells #[.string ⟨t.l.toArray⟩, .int .i64 ((t.er.getD 0 : Nat) : Int)] 28 (0, 0))
  ne : t.er ≠ some 0
  small : t.l.length ≤ 1000000000000
theorem RTapeAt.keep {S : Nat → Prop} {w w1 : World} {bx : Nat} {t : TP} (h : RTapeAt w bx t) (hk : Keeps S w w1) (hb : ¬ S bx) : RTapeAt w1 bx t := ⟨hk.get h.at_ hb, h.ne, h.small⟩
theorem RTapeAt.below {w w1 : World} {bx : Nat} {t : TP} (h : RTapeAt w bx t) (hk : Below w.heap.size w w1) : RTapeAt w1 bx t := h.keep (Keeps.of_below hk NoB) (fun h => h)
def RetRT (v : Value) (bx : Nat) (t : TP) (w : World) : Ending → World → Prop := fun en w' => en = .returned v ∧ Keeps (fun b => b = bx) w w' ∧ RTapeAt w' bx t
theorem rt_err {w : World} {bx : Nat} {t : TP} (h : RTapeAt w bx t) (h0 : t.er = none) (e : Nat) (he : e ≠ 0) : Keeps (fun b => b = bx) w (w.setCell ⟨bx, 1, none⟩ (.int .i64 (e : Int))) ∧ RTapeAt (w.setCell ⟨bx, 1, none⟩ (.int .i64 (e : Int))) bx ⟨t.l, some e⟩ := by
  refine ⟨(Keeps.refl (fun b => b = bx) w).setCell (a := ⟨bx, 1, none⟩) (fun _ => rfl) _, ⟨?_, by simpa using he, h.small⟩⟩
  exact get_setCell h.at_ _
theorem rt_move {w : World} {bx : Nat} {t : TP} (h : RTapeAt w bx t) (h0 : t.er = none) (k : Nat) (hk : k ≤ t.l.length) : Keeps (fun b => b = bx) w (w.setCell ⟨bx, 0, none⟩ (.string ((⟨t.l.toArray⟩ : ByteArray).extract k t.l.length))) ∧ RTapeAt (w.setCell ⟨bx, 0, none⟩ (.string ((⟨t.l.toArray⟩ : ByteArray).extract k t.l.length))) bx ⟨t.l.drop k, none⟩ := by
  refine ⟨(Keeps.refl (fun b => b = bx) w).setCell (a := ⟨bx, 0, none⟩) (fun _ => rfl) _, ⟨?_, by simp, by rw [List.length_drop]; have := h.small; omega⟩⟩
  have e := h.at_
  rw [h0] at e
  rw [bytes_from]
  exact get_setCell e _
theorem TP.num_err (t : TP) (most : Nat) (h : t.er = none) (e : Nat) (he : e ≠ 0) (hg : numGo 0 0 1 t.l = (0, 0, e)) : t.number most = (0, ⟨t.l, some e⟩) := by
  unfold TP.number; rw [h]; simp only; rw [hg, if_pos he]
theorem TP.num_long (t : TP) (most : Nat) (h : t.er = none) (n k : Nat) (hg : numGo 0 0 1 t.l = (n, k, 0)) (hm : most < n) : t.number most = (0, ⟨t.l, some 13⟩) := by
  unfold TP.number; rw [h]; simp only; rw [hg, if_neg (by simp), if_pos hm]
theorem TP.num_ok (t : TP) (most : Nat) (h : t.er = none) (n k : Nat) (hg : numGo 0 0 1 t.l = (n, k, 0)) (hm : ¬ most < n) : t.number most = (n, ⟨t.l.drop k, none⟩) := by
  unfold TP.number; rw [h]; simp only; rw [hg, if_neg (by simp), if_neg hm]
set_option maxHeartbeats 2000000 in
theorem rtape_number (w : World) (bx : Nat) (t : TP) (most : Int) (m : Nat) (hm : most = (m : Int)) (h : RTapeAt w bx t) :
    Calls Tryd.prog 28 #[.pointer (some ⟨bx, 0, none⟩), .int .i64 most] w (RetRT (.int .i64 ((t.number m).1 : Int)) bx (t.number m).2 w) := by
  subst hm
  have hc1 : w.cell? ⟨bx, 1, none⟩ = some (.int .i64 ((t.er.getD 0 : Nat) : Int)) := cell_of_get h.at_ rfl
  have hc0 : w.cell? ⟨bx, 0, none⟩ = some (.string ⟨t.l.toArray⟩) := cell_of_get h.at_ rfl
  have hf0 : w.frozen? ⟨bx, 0, none⟩ = false := free_of_get h.at_
  have hf1 : w.frozen? ⟨bx, 1, none⟩ = false := free_of_get h.at_
  cases her : t.er with
  | some e =>
    have he : e ≠ 0 := by intro h0; exact h.ne (by rw [her, h0])
    have hne : ((e : Int) != 0) = true := by simp only [bne_iff_ne, ne_eq]; omega
    have hres : t.number m = (0, t) := by unfold TP.number; rw [her]
    rw [hres]
    rw [her] at hc1
    simp only [Option.getD_some] at hc1
    clear hres
    replace her := Lib.hid her
    go_enter Tryd.func28, Tryd.ntmps28
    go_wp2
    go_ret
    exact ⟨rfl, Keeps.refl _ _, h⟩
  | none =>
    rw [her] at hc1
    simp only [Option.getD_none] at hc1
    have hsm := h.small
    have herr := rt_err h her
    have hmv := rt_move h her
    have n1 := TP.num_err t m her
    have n2 := TP.num_long t m her
    have n3 := TP.num_ok t m her
    generalize hr : t.number m = r at *
    replace hr := Lib.hid hr
    generalize hl : t.l = l at *
    have hsz : (⟨l.toArray⟩ : ByteArray).size = l.length := rfl
    generalize hs : (⟨l.toArray⟩ : ByteArray) = s at *
    replace herr := Lib.hid herr; replace hmv := Lib.hid hmv; replace n1 := Lib.hid n1; replace n2 := Lib.hid n2; replace n3 := Lib.hid n3
    replace hs := Lib.hid hs; replace her := Lib.hid her; replace hl := Lib.hid hl; replace h := Lib.hid h
    go_enter Tryd.func28, Tryd.ntmps28
    go_wp2
    go_loop [5] (fun i => ∃ k : Nat, k ≤ l.length ∧ k ≤ 10 ∧ i = .int .i64 k ∧ Hid (∀ i x, i < k → l[i]? = some x → 128 ≤ x.toNat)) (fun i => l.length - (intOf i).toNat)
    case atStart => exact ⟨0, Nat.zero_le _, by omega, rfl, Lib.hid (by intro i x h; omega)⟩
    case round =>
      obtain ⟨k, hk, hk10, rfl, hrun⟩ := hrel
      by_cases hlt : k < l.length
      · by_cases h10 : k < 10
        · obtain ⟨x, hx⟩ := get_some_of_lt hlt
          have hxl := x.toNat_lt
          have hix := fun W => str_at (P := Tryd.prog) Tryd.underlying9 hs.out.symm hx .i64 W
          by_cases h128 : 128 ≤ x.toNat
          · have hnx : Hid (∀ i y, i < k + 1 → l[i]? = some y → 128 ≤ y.toNat) := Lib.hid (by
              intro i y hi hy
              rcases Nat.lt_or_ge i k with h | h
              · exact hrun.out i y h hy
              · have : i = k := by omega
                subst this
                rw [hx] at hy; cases hy; exact h128)
            replace hx := Lib.hid hx
            go_wp2
            go_round
            case rel => exact ⟨k + 1, by omega, by omega, by go_num, hnx⟩
            case measure => simp [intOf]; omega
          · have hrl := runL_of hrun.out hk (.inr ⟨x, hx, by omega⟩)
            replace hrun := Lib.hid hrun
            by_cases h9 : 9 ≤ k
            · have hg : numGo 0 0 1 l = (0, 0, 10) := numGo_long l (by omega) (by have := hrl; omega)
              have hT := n1.out 10 (by omega) hg
              replace hg := Lib.hid hg; replace hT := Lib.hid hT; replace hrl := Lib.hid hrl; replace hx := Lib.hid hx
              have hkl : ((k : Int) == (l.length : Int)) = false := by simp only [beq_eq_false_iff_ne, ne_eq]; omega
              go_wp2
              go_ret
              rw [hT.out]; exact ⟨rfl, herr.out 10 (by omega)⟩
            · have hkl : ((k : Int) == (l.length : Int)) = false := by simp only [beq_eq_false_iff_ne, ne_eq]; omega
              by_cases hz : x.toNat = 0 ∧ 0 < k
              · have hg : numGo 0 0 1 l = (0, 0, 10) := numGo_zero l x (by omega) (by rw [hrl]; exact hx) hz.1 (by omega)
                have hx0 : ((x.toNat : Int) == 0) = true := by simp only [beq_iff_eq]; omega
                have hk0 : 0 < k := hz.2
                have hT := n1.out 10 (by omega) hg
                replace hg := Lib.hid hg; replace hT := Lib.hid hT; replace hrl := Lib.hid hrl; replace hx := Lib.hid hx; replace hz := Lib.hid hz
                go_wp2
                go_ret
                rw [hT.out]; exact ⟨rfl, herr.out 10 (by omega)⟩
              · have hg : numGo 0 0 1 l = (horn (l.take (k + 1)), k + 1, 0) := by
                  have := numGo_val l x (by omega) (by rw [hrl]; exact hx) (by rw [hrl]; exact hz)
                  rwa [hrl] at this
                have hpath : k ≤ 0 ∨ (0 < k ∧ ((x.toNat : Int) == 0) = false) := by
                  rcases Nat.eq_zero_or_pos k with h | h
                  · exact .inl (by omega)
                  · refine .inr ⟨h, ?_⟩
                    simp only [beq_eq_false_iff_ne, ne_eq]; omega
                replace hg := Lib.hid hg; replace hrl := Lib.hid hrl; replace hx := Lib.hid hx; replace hz := Lib.hid hz
                have hk1 : k ≤ 8 := by omega
                have hmv1 := hmv.out (k + 1) (by omega)
                replace hmv1 := Lib.hid hmv1
                have hget : ∀ i, i ≤ k → ∃ y, (l.take (k + 1))[i]? = some y ∧ l[i]? = some y := by
                  intro i hi
                  obtain ⟨y, hy⟩ := get_some_of_lt (show i < l.length by omega)
                  exact ⟨y, by rw [List.getElem?_take, if_pos (by omega), hy], hy⟩
                have hlk : (l.take (k + 1)).length = k + 1 := by rw [List.length_take]; omega
                generalize hL : l.take (k + 1) = L at *
                have hv9 := horn_nine L (by omega)
                replace hget := Lib.hid hget; replace hlk := Lib.hid hlk; replace hL := Lib.hid hL
                have hkl2 : k + 1 ≤ l.length := by omega
                rcases hpath with hk0 | ⟨hk0, hx0⟩
                all_goals
                  go_wp2
                  go_loop [6, 7] (fun n i => ∃ j : Nat, j ≤ k + 1 ∧ i = .int .i64 ((j : Int) - 1) ∧ n = .int .i64 ((horn (L.drop j) : Nat) : Int)) (fun _ i => (intOf i + 1).toNat)
                  case atStart => exact ⟨k + 1, Nat.le_refl _, by go_num, by rw [List.drop_of_length_le (by have := hlk.out; omega)]; rfl⟩
                  case round =>
                    obtain ⟨j, hj, rfl, rfl⟩ := hrel
                    by_cases hj0 : 0 < j
                    · obtain ⟨j, rfl⟩ : ∃ j', j = j' + 1 := ⟨j - 1, by omega⟩
                      obtain ⟨y, hyL, hyl⟩ := hget.out j (by omega)
                      have hix2 := fun W => str_at (P := Tryd.prog) Tryd.underlying9 hs.out.symm hyl .i64 W
                      have hyb := y.toNat_lt
                      have hst := horn_drop L j y hyL
                      have hsm2 := horn_small (L.drop (j + 1)) (by rw [List.length_drop]; have := hlk.out; omega)
                      generalize horn (L.drop (j + 1)) = q at *
                      replace hst := Lib.hid hst; replace hyL := Lib.hid hyL; replace hyl := Lib.hid hyl
                      have hjj : ((((j + 1 : Nat) : Int)) - 1) = (j : Int) := by omega
                      have hlj : j < l.length := by omega
                      rw [hjj]
                      go_wp2
                      go_round
                      case rel => exact ⟨j, by omega, by go_num, by rw [hst.out]; go_num⟩
                      case measure => first | (simp [intOf]; done) | (simp [intOf]; omega)
                    · have hj00 : j = 0 := by omega
                      subst hj00
                      rw [List.drop_zero]
                      generalize hh : horn L = q at *
                      by_cases hmq : m < q
                      · have hT := n2.out q (k + 1) hg.out hmq
                        replace hT := Lib.hid hT
                        go_wp2
                        go_ret
                        rw [hT.out]; exact ⟨rfl, herr.out 13 (by omega)⟩
                      · have hT := n3.out q (k + 1) hg.out hmq
                        replace hT := Lib.hid hT
                        go_wp2
                        go_ret
                        rw [hT.out]
                        exact ⟨rfl, hmv1.out⟩
        · have hge := runL_ge hrun.out hk
          have hg : numGo 0 0 1 l = (0, 0, 10) := numGo_long l (by omega) (by omega)
          have hT := n1.out 10 (by omega) hg
          have hkl : ((k : Int) == (l.length : Int)) = false := by simp only [beq_eq_false_iff_ne, ne_eq]; omega
          replace hg := Lib.hid hg; replace hT := Lib.hid hT; replace hge := Lib.hid hge
          go_wp2
          go_ret
          rw [hT.out]; exact ⟨rfl, herr.out 10 (by omega)⟩
      · have hkl : ((k : Int) == (l.length : Int)) = true := by simp only [beq_iff_eq]; omega
        have hrl := runL_of hrun.out hk (.inl (by omega))
        by_cases h10 : k < 10
        · have hg : numGo 0 0 1 l = (0, 0, 11) := numGo_end l (by omega) (by omega)
          have hT := n1.out 11 (by omega) hg
          have hor : ((k : Int) == 9) = true ∨ ((k : Int) == 9) = false := by cases ((k : Int) == 9) <;> simp
          replace hg := Lib.hid hg; replace hT := Lib.hid hT; replace hrl := Lib.hid hrl
          rcases hor with h9 | h9
          all_goals
            go_wp2
            go_ret
            rw [hT.out]; exact ⟨rfl, herr.out 11 (by omega)⟩
        · have hg : numGo 0 0 1 l = (0, 0, 10) := numGo_long l (by omega) (by omega)
          have hT := n1.out 10 (by omega) hg
          replace hg := Lib.hid hg; replace hT := Lib.hid hT; replace hrl := Lib.hid hrl
          go_wp2
          go_ret
          rw [hT.out]; exact ⟨rfl, herr.out 10 (by omega)⟩
end Go.Proofs.YtbgkohfifcfofaaDoor
