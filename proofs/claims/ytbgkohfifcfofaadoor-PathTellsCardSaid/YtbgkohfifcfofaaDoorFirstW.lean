/- The walk of regencylaw08.first. -/
import Derived.Test.YtbgkohfifcfofaaDoorParseE
import Derived.Test.YtbgkohfifcfofaaDoorParseW
import Derived.Test.YtbgkohfifcfofaaDoorPathA
import Derived.Test.YtbgkohfifcfofaaDoorPathG
set_option linter.unusedVariables false
set_option linter.unusedSimpArgs false
set_option maxRecDepth 100000
open Go.RowKit
namespace Go.Proofs.YtbgkohfifcfofaaDoor
open Go.Proofs
theorem text13 : ptextB [1, 3] = [49, 46, 51] := by
  have h1 : Lib.itoa 1 = [49] := (itoa_nn 1).trans ((dec_one (by omega)).trans rfl)
  have h3 : Lib.itoa 3 = [51] := (itoa_nn 3).trans ((dec_one (by omega)).trans rfl)
  simp [ptextB, dots, h1, h3]
theorem parse13 : pathParse [49, 46, 51] = some [1, 3] := by
  have h := parse_text (p := [1, 3]) (by decide)
  rwa [text13] at h
set_option maxHeartbeats 1000000 in
theorem law_first (w : World) (hv : VarW w) (ht : TabW w) : Calls Tryd.prog 6 #[] w (RetB (.bool true) w) := by
  have hge : pathGetE ⟨[7], none⟩ = 10 := by decide
  have hbel1 : pathBelow [1, 3] [1] = true := by decide
  have hbel2 : pathBelow [1] [1, 3] = false := by decide
  have hch : pathChild [1] 3 = true := by decide
  have hcm : cmpL [1] [1, 3] = -1 := by decide
  have hrt : pathRight [] = true := by decide
  replace hge := Lib.hid hge; replace hbel1 := Lib.hid hbel1; replace hbel2 := Lib.hid hbel2; replace hch := Lib.hid hch; replace hcm := Lib.hid hcm; replace hrt := Lib.hid hrt
  go_enter Tryd.func6, Tryd.ntmps6
  go_wp2_with fail
  refine (path_parse w [49, 46, 51] (by simp) hv ht).mono ?_
  rintro e w1 ⟨p, rfl, hb1, hp⟩
  rw [parse13] at hp ⊢
  simp only [Option.getD_some, Option.isSome_some] at hp ⊢
  have ht1 : TabW w1 := ht.below hb1 (Nat.le_refl _)
  obtain ⟨A, c, rfl, hcA, hcB⟩ := hp.row.shape
  replace hb1 := Lib.hid hb1; replace hp := Lib.hid hp
  go_wp2_with fail
  refine (path_parent w1 _ _ [1] 3 (by simp) hp.out.row).mono ?_
  rintro e w2 ⟨q, rfl, hb2, hq⟩
  have hp2 := hp.out.below hb2
  have hb02 := Below.step hb1.out hb2
  have ht2 : TabW w2 := ht.below hb02 (Nat.le_refl _)
  obtain ⟨A2, c2, rfl, _, _⟩ := hq.row.shape
  replace hp2 := Lib.hid hp2; replace hb02 := Lib.hid hb02; replace hb2 := Lib.hid hb2; replace hq := Lib.hid hq
  go_wp2_with fail
  refine (path_child w2 _ _ [1] 3 (by simp) hq.out.row).mono ?_
  rintro e w3 ⟨cv, rfl, hb3, hc⟩
  rw [hch.out] at hc ⊢
  simp only [if_true] at hc
  have hp3 := hp2.out.below hb3
  have hq3 := hq.out.below hb3
  have hb03 := Below.step hb02.out hb3
  obtain ⟨A3, c3, rfl, _, _⟩ := hc.row.shape
  replace hp3 := Lib.hid hp3; replace hq3 := Lib.hid hq3; replace hb03 := Lib.hid hb03; replace hb3 := Lib.hid hb3; replace hc := Lib.hid hc
  go_wp2_with fail
  have hrow7 : Row encB (w3.alloc (.cells #[.int .u8 7] 5)) (fun b => w3.heap.size ≤ b) (.slice (some ⟨w3.heap.size, 0, none⟩) 1 1) [7] := row_lit encB w3 5 (0, 0) [7] (by simp) 1 rfl _ rfl
  have hb4 : Below w.heap.size w (w3.alloc (.cells #[.int .u8 7] 5)) := hb03.out.alloc hb03.out.size _
  have hp4 := hp3.out.below ((Below.refl _ w3).alloc (Nat.le_refl _) (.cells #[.int .u8 7] 5))
  have hq4 := hq3.out.below ((Below.refl _ w3).alloc (Nat.le_refl _) (.cells #[.int .u8 7] 5))
  have hc4 := hc.out.below ((Below.refl _ w3).alloc (Nat.le_refl _) (.cells #[.int .u8 7] 5))
  generalize w3.alloc (.cells #[.int .u8 7] 5) = w4 at *
  replace hrow7 := Lib.hid hrow7; replace hb4 := Lib.hid hb4; replace hp4 := Lib.hid hp4; replace hq4 := Lib.hid hq4; replace hc4 := Lib.hid hc4
  refine (tape_new w4 _ _ [7] hrow7.out (by simp)).mono ?_
  rintro e w5 ⟨bt, rfl, hb5, hbt, hT⟩
  have hb05 := Below.step hb4.out hb5
  have hp5 := hp4.out.below hb5
  have hq5 := hq4.out.below hb5
  have hc5 := hc4.out.below hb5
  replace hb05 := Lib.hid hb05; replace hp5 := Lib.hid hp5; replace hq5 := Lib.hid hq5; replace hc5 := Lib.hid hc5; replace hb5 := Lib.hid hb5
  go_wp2_with fail
  refine (path_get w5 _ bt _ hT).mono ?_
  rintro e w6 ⟨gv, rfl, hk6, hg6, _⟩
  rw [hge.out]
  have hne : ∀ {v : Value} {l : List Int} {B : Nat}, Own encI 3 w4 B v l → ∀ b, v.ownBlock = some b → ¬ b = bt := fun h b hb he => by have := (h.lt b hb).2; omega
  have hp6 := hp5.out.keep hk6 (hne hp4.out)
  have hq6 := hq5.out.keep hk6 (hne hq4.out)
  have hc6 := hc5.out.keep hk6 (hne hc4.out)
  have hb06 : Below w.heap.size w w6 := hb05.out.trans (hk6.belowB hb05.out.size (fun b hb he => by have := hb4.out.size; omega))
  have ht6 : TabW w6 := ht.below hb06 (Nat.le_refl _)
  replace hb06 := Lib.hid hb06; replace hp6 := Lib.hid hp6; replace hq6 := Lib.hid hq6; replace hc6 := Lib.hid hc6; replace hg6 := Lib.hid hg6; replace hk6 := Lib.hid hk6; replace hT := Lib.hid hT; replace hbt := Lib.hid hbt
  obtain ⟨A6, c6, rfl, _, _⟩ := hg6.out.row.shape
  go_wp2_with fail
  refine (path_text w6 _ _ [1, 3] hc6.out.row (by simp) (by intro x hx; simp at hx; unfold I64; omega) ht6).mono ?_
  rintro e w7 ⟨rfl, hb7⟩
  rw [text13]
  have hp7 := hp6.out.below hb7
  have hq7 := hq6.out.below hb7
  have hb07 := Below.step hb06.out hb7
  replace hp7 := Lib.hid hp7; replace hq7 := Lib.hid hq7; replace hb7 := Lib.hid hb7; replace hb07 := Lib.hid hb07
  go_wp2_with fail
  refine (path_below w7 _ _ _ _ [1, 3] [1] hp7.out.row hq7.out.row).mono ?_
  rintro e w8 ⟨rfl, hb8⟩
  rw [hbel1.out]
  have hp8 := hp7.out.below hb8
  have hq8 := hq7.out.below hb8
  have hb08 := Below.step hb07.out hb8
  replace hp8 := Lib.hid hp8; replace hq8 := Lib.hid hq8; replace hb8 := Lib.hid hb8; replace hb08 := Lib.hid hb08
  go_wp2_with fail
  refine (path_below w8 _ _ _ _ [1] [1, 3] hq8.out.row hp8.out.row).mono ?_
  rintro e w9 ⟨rfl, hb9⟩
  rw [hbel2.out]
  have hp9 := hp8.out.below hb9
  have hq9 := hq8.out.below hb9
  have hb09 := Below.step hb08.out hb9
  replace hp9 := Lib.hid hp9; replace hq9 := Lib.hid hq9; replace hb9 := Lib.hid hb9; replace hb09 := Lib.hid hb09
  go_wp2_with fail
  refine (path_compare w9 _ _ _ _ [1] [1, 3] hq9.out.row hp9.out.row).mono ?_
  rintro e w10 ⟨rfl, rfl⟩
  rw [hcm.out]
  go_wp2_with fail
  refine (path_right w9 _ _ [] (Row.nil _ _ (fun _ => True))).mono ?_
  rintro e w10 ⟨rfl, rfl⟩
  rw [hrt.out]
  go_wp2
  go_ret
  exact ⟨rfl, hb09.out⟩
end Go.Proofs.YtbgkohfifcfofaaDoor
