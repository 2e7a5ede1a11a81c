/- The walk of regencylaw08.PathBack. -/
import Derived.Test.YtbgkohfifcfofaaDoorFirstW
import Derived.Test.YtbgkohfifcfofaaDoorPathL
import Derived.Test.YtbgkohfifcfofaaDoorRef8G
set_option linter.unusedVariables false
set_option linter.unusedSimpArgs false
set_option maxRecDepth 100000
open Go.RowKit
namespace Go.Proofs.YtbgkohfifcfofaaDoor
open Go.Proofs
theorem pen_new (w : World) : PenAt w.heap.size (w.alloc (.cells #[.slice none 0 0] 47)) w.heap.size [] := ⟨Nat.le_refl _, _, heap_alloc_new w _, Own.nil _ _ _ _⟩
theorem right_len {p : List Int} (h : pathRight p = true) : p.length ≤ 6 := by
  simp only [pathRight, Bool.and_eq_true, decide_eq_true_eq] at h
  exact h.1
theorem right_I64 {p : List Int} (h : pathRight p = true) : ∀ x ∈ p, I64 x := by
  simp only [pathRight, Bool.and_eq_true, decide_eq_true_eq] at h
  intro x hx
  have := List.all_eq_true.1 h.2 x hx
  simp [okN] at this
  unfold I64
  omega
set_option maxHeartbeats 2000000 in
theorem path_back_false (w : World) (F G : Nat → Prop) (v u : Value) (p q : List Int) (n : Int) (hx : Row encI w F v p) (hy : Row encI w G u q) (hv : VarW w) (ht : TabW w) (hr : (pathRight p && pathRight q) = false) :
    Calls Tryd.prog 5 #[v, u, .int .i64 n] w (RetB (.bool true) w) := by
  obtain ⟨A, c, rfl, hc1, hc2⟩ := hx.shape
  obtain ⟨A2, c2, rfl, hd1, hd2⟩ := hy.shape
  replace hr := Lib.hid hr
  go_enter Tryd.func5, Tryd.ntmps5
  go_wp2_with fail
  refine (law_first w hv ht).mono ?_
  rintro e w1 ⟨rfl, hb1⟩
  have hx1 := hx.below hb1
  have hy1 := hy.below hb1
  replace hb1 := Lib.hid hb1
  cases hp : pathRight p with
  | false =>
    replace hp := Lib.hid hp
    go_wp2_with fail
    refine (path_right w1 _ _ _ hx1).mono ?_
    rintro e w2 ⟨rfl, rfl⟩
    rw [hp.out]
    go_wp2
    go_ret
    exact ⟨rfl, hb1.out⟩
  | true =>
    have hq : pathRight q = false := by have := hr.out; rw [hp] at this; simpa using this
    replace hp := Lib.hid hp; replace hq := Lib.hid hq
    go_wp2_with fail
    refine (path_right w1 _ _ _ hx1).mono ?_
    rintro e w2 ⟨rfl, rfl⟩
    rw [hp.out]
    go_wp2_with fail
    refine (path_right w1 _ _ _ hy1).mono ?_
    rintro e w2 ⟨rfl, rfl⟩
    rw [hq.out]
    go_wp2
    go_ret
    exact ⟨rfl, hb1.out⟩
set_option maxHeartbeats 4000000 in
theorem path_back_true (w : World) (F G : Nat → Prop) (v u : Value) (p q : List Int) (n : Int) (hx : Row encI w F v p) (hy : Row encI w G u q) (hn : I64 n) (hv : VarW w) (ht : TabW w) (hp : pathRight p = true) (hq : pathRight q = true) :
    Calls Tryd.prog 5 #[v, u, .int .i64 n] w (RetB (.bool true) w) := by
  have hx := hx.inside
  have hy := hy.inside
  obtain ⟨A, c, rfl, hc1, hc2⟩ := hx.shape
  obtain ⟨A2, c2, rfl, hd1, hd2⟩ := hy.shape
  have hl6 := right_len hp
  have hi64 := right_I64 hp
  have hgp := get_put p hp
  have hpt := parse_text hp
  have hle := ptextB_len p hi64 p.length
  rw [List.take_of_length_le (Nat.le_refl _)] at hle
  have hself : (p == p) = true := by simp
  replace hp := Lib.hid hp; replace hq := Lib.hid hq; replace hgp := Lib.hid hgp; replace hpt := Lib.hid hpt; replace hi64 := Lib.hid hi64; replace hself := Lib.hid hself
  go_enter Tryd.func5, Tryd.ntmps5
  go_wp2_with fail
  refine (law_first w hv ht).mono ?_
  rintro e w1 ⟨rfl, hb1⟩
  have hx1 := hx.below hb1
  have hy1 := hy.below hb1
  replace hb1 := Lib.hid hb1
  go_wp2_with fail
  refine (path_right w1 _ _ _ hx1).mono ?_
  rintro e w2 ⟨rfl, rfl⟩
  rw [hp.out]
  go_wp2_with fail
  refine (path_right w1 _ _ _ hy1).mono ?_
  rintro e w2 ⟨rfl, rfl⟩
  rw [hq.out]
  have ht1 : TabW w1 := ht.below hb1.out (Nat.le_refl _)
  go_wp2_with fail
  refine (path_text w1 _ _ p hx1 (by omega) hi64.out ht1).mono ?_
  rintro e w2 ⟨rfl, hb2⟩
  have hb02 := Below.step hb1.out hb2
  have hv2 : VarW w2 := hv.below hb02 (Nat.le_refl _)
  have ht2 : TabW w2 := ht.below hb02 (Nat.le_refl _)
  replace hb02 := Lib.hid hb02; replace hb2 := Lib.hid hb2; replace hx1 := Lib.hid hx1; replace hy1 := Lib.hid hy1
  go_wp2_with fail
  refine (path_parse w2 (ptextB p) (by omega) hv2 ht2).mono ?_
  rintro e w3 ⟨xv, rfl, hb3, hxo⟩
  rw [hpt.out] at hxo ⊢
  simp only [Option.getD_some, Option.isSome_some] at hxo ⊢
  have hb03 := Below.step hb02.out hb3
  obtain ⟨A3, c3, rfl, _, _⟩ := hxo.row.shape
  replace hb03 := Lib.hid hb03; replace hb3 := Lib.hid hb3; replace hxo := Lib.hid hxo
  go_wp2_with fail
  have hpen := pen_new w3
  have hb04 : Below w.heap.size w (w3.alloc (.cells #[.slice none 0 0] 47)) := hb03.out.alloc hb03.out.size _
  have hxo4 := hxo.out.below ((Below.refl _ w3).alloc (Nat.le_refl _) (.cells #[.slice none 0 0] 47))
  have hs4 : w3.heap.size < (w3.alloc (.cells #[.slice none 0 0] 47)).heap.size := by simp
  generalize w3.alloc (.cells #[.slice none 0 0] 47) = w4 at *
  have hx4 := hx.below hb04
  have hsz03 := hb03.out.size
  refine (path_put w4 w3.heap.size w3.heap.size [] _ _ p hpen (by simp) hx4 (fun b hb => by have := hb.2; omega) (by omega)).mono ?_
  rintro e w5 ⟨v5, rfl, hb5, hpen5⟩
  rw [List.nil_append] at hpen5
  have hb05 := hb04.trans (hb5.mono hsz03)
  have hxo5 : Own encI 3 w5 w2.heap.size (.slice A3 p.length c3) p := hxo4.keep (S := fun b => w3.heap.size ≤ b) ⟨hb5.os, hb5.tape, hb5.output, hb5.size, fun b hb hn => hb5.block b (by omega)⟩ (fun b hb => by have := (hxo.out.lt b hb).2; omega)
  have hlB : (putB p).length ≤ 100 := by
    have h1 := numB_len9 p.length (by omega)
    have h2 := putL_len p
    simp only [putB, List.length_append]
    omega
  replace hb04 := Lib.hid hb04; replace hb05 := Lib.hid hb05; replace hxo5 := Lib.hid hxo5; replace hxo4 := Lib.hid hxo4; replace hb5 := Lib.hid hb5; replace hpen := Lib.hid hpen; replace hx4 := Lib.hid hx4
  go_wp2_with fail
  refine (pen_bytes w5 _ _ _ hpen5 (by omega)).mono ?_
  rintro e w6 ⟨bv, rfl, hb6, hbo⟩
  have hb06 := Below.step hb05.out hb6
  have hxo6 := hxo5.out.below hb6
  obtain ⟨A6, c6, rfl, _, _⟩ := hbo.row.shape
  replace hb06 := Lib.hid hb06; replace hxo6 := Lib.hid hxo6; replace hb6 := Lib.hid hb6; replace hpen5 := Lib.hid hpen5
  go_wp2_with fail
  refine (tape_new w6 _ _ _ hbo.row (by omega)).mono ?_
  rintro e w7 ⟨bt, rfl, hb7, hbt, hT⟩
  have hb07 := Below.step hb06.out hb7
  have hxo7 := hxo6.out.below hb7
  replace hb07 := Lib.hid hb07; replace hxo7 := Lib.hid hxo7; replace hb7 := Lib.hid hb7; replace hbo := Lib.hid hbo
  go_wp2_with fail
  refine (path_get w7 _ bt _ hT).mono ?_
  rintro e w8 ⟨gv, rfl, hk8, hg8, _⟩
  rw [hgp.out.2]
  rw [hgp.out.1] at hg8
  have hsz06 := hb06.out.size
  have hb08 : Below w.heap.size w w8 := hb07.out.trans (hk8.belowB hb07.out.size (fun b hb he => by omega))
  have hxo8 := hxo7.out.keep hk8 (fun b hb he => by have := (hxo6.out.lt b hb).2; omega)
  obtain ⟨A8, c8, rfl, _, _⟩ := hg8.row.shape
  have hx8 := hx.below hb08
  have hy8 := hy.below hb08
  replace hb08 := Lib.hid hb08; replace hxo8 := Lib.hid hxo8; replace hk8 := Lib.hid hk8; replace hT := Lib.hid hT; replace hbt := Lib.hid hbt; replace hg8 := Lib.hid hg8; replace hx8 := Lib.hid hx8; replace hy8 := Lib.hid hy8
  go_wp2_with fail
  refine (ref8_same w8 _ _ _ _ p p hxo8.out.row hx8.out).mono ?_
  rintro e w9 ⟨rfl, hb9⟩
  rw [hself.out]
  have hb09 := Below.step hb08.out hb9
  have hg9 := hg8.out.below hb9
  have hx9 := hx.below hb09
  replace hb09 := Lib.hid hb09; replace hb9 := Lib.hid hb9; replace hg9 := Lib.hid hg9; replace hx9 := Lib.hid hx9
  go_wp2_with fail
  refine (ref8_same w9 _ _ _ _ p p hg9.out.row hx9.out).mono ?_
  rintro e w10 ⟨rfl, hb10⟩
  rw [hself.out]
  have hb010 := Below.step hb09.out hb10
  have hx10 := hx.below hb010
  have hy10 := hy.below hb010
  replace hb010 := Lib.hid hb010; replace hb10 := Lib.hid hb10; replace hx10 := Lib.hid hx10; replace hy10 := Lib.hid hy10
  go_wp2_with fail
  refine (path_child w10 _ _ p n (by omega) hx10.out).mono ?_
  rintro e w11 ⟨cv, rfl, hb11, hco⟩
  have hb011 := Below.step hb010.out hb11
  have hx11 := hx.below hb011
  have hy11 := hy.below hb011
  obtain ⟨A11, n11, c11, rfl⟩ := hco.row.shp
  replace hb011 := Lib.hid hb011; replace hb11 := Lib.hid hb11; replace hx11 := Lib.hid hx11; replace hy11 := Lib.hid hy11
  have hneg := cmpL_neg p q
  have hzero := cmpL_zero p q
  have hlt := cmpL_lt q p
  have hdc : pathBelow p q = true → cmpL q p = -1 := below_cmp
  generalize ha : cmpL p q = a at *
  generalize hb : cmpL q p = b at *
  generalize hs : (p == q) = s
  generalize hd : pathBelow p q = d at *
  have he : (a == -b) = true := by simp [hneg]
  have hcase : (s = true ∧ (a == 0) = true) ∨ (s = false ∧ (a == 0) = false) := by
    rw [← hs]
    by_cases h : p = q
    · exact .inl ⟨by simp [h], by simpa using hzero.2 h⟩
    · exact .inr ⟨by simpa using h, by simp only [beq_eq_false_iff_ne, ne_eq]; exact fun h' => h (hzero.1 h')⟩
  have hdcase : d = false ∨ (d = true ∧ (b == -1) = true) := by
    cases d with
    | false => exact .inl rfl
    | true => exact .inr ⟨rfl, by rw [hdc rfl]; rfl⟩
  replace ha := Lib.hid ha; replace hb := Lib.hid hb; replace hs := Lib.hid hs; replace hd := Lib.hid hd; replace hneg := Lib.hid hneg; replace hzero := Lib.hid hzero; replace hdc := Lib.hid hdc
  cases hm : pathChild p n with
  | false =>
    replace hm := Lib.hid hm; replace hco := Lib.hid hco
    go_wp2_with fail
    refine (path_compare w11 _ _ _ _ p q hx11.out hy11.out).mono ?_
    rintro e wa ⟨rfl, rfl⟩
    rw [ha.out]
    go_wp2_with fail
    refine (path_compare w11 _ _ _ _ q p hy11.out hx11.out).mono ?_
    rintro e wa ⟨rfl, rfl⟩
    rw [hb.out]
    go_wp2_with fail
    refine (path_compare w11 _ _ _ _ p q hx11.out hy11.out).mono ?_
    rintro e wa ⟨rfl, rfl⟩
    rw [ha.out]
    go_wp2_with fail
    refine (ref8_same w11 _ _ _ _ p q hx11.out hy11.out).mono ?_
    rintro e wy ⟨rfl, hby⟩
    rw [hs.out]
    have hb0y := Below.step hb011.out hby
    have hxy := hx.below hb0y
    have hyy := hy.below hb0y
    replace hb0y := Lib.hid hb0y; replace hby := Lib.hid hby; replace hxy := Lib.hid hxy; replace hyy := Lib.hid hyy
    rcases hcase with ⟨hs1, ha1⟩ | ⟨hs1, ha1⟩
    all_goals
      subst hs1
      rcases hdcase with hd1 | ⟨hd1, hb2⟩
      all_goals
        go_wp2_with fail
        refine (path_below wy _ _ _ _ p q hxy.out hyy.out).mono ?_
        rintro e wz ⟨rfl, hbz⟩
        rw [hd.out, hd1]
        have hb0z := Below.step hb0y.out hbz
        have hxz := hx.below hb0z
        have hyz := hy.below hb0z
        replace hb0z := Lib.hid hb0z; replace hbz := Lib.hid hbz; replace hxz := Lib.hid hxz; replace hyz := Lib.hid hyz
      · go_wp2
        go_ret
        exact ⟨rfl, hb0z.out⟩
      · go_wp2_with fail
        refine (path_compare wz _ _ _ _ q p hyz.out hxz.out).mono ?_
        rintro e wa ⟨rfl, rfl⟩
        rw [hb.out]
        go_wp2
        go_ret
        exact ⟨rfl, hb0z.out⟩
  | true =>
    rw [hm] at hco
    simp only [if_true] at hco
    have hbc := below_child p n
    have hcc := cmp_child p n
    have hnn : (n == n) = true := by simp
    have hnn2 : (n != n) = false := by simp
    replace hm := Lib.hid hm; replace hbc := Lib.hid hbc; replace hcc := Lib.hid hcc
    go_wp2_with fail
    refine (path_parent w11 _ _ p n (by omega) hco.row).mono ?_
    rintro e w12 ⟨uv, rfl, hb12, huo⟩
    have hb012 := Below.step hb011.out hb12
    have hx12 := hx.below hb012
    have hco12 := hco.below hb12
    obtain ⟨A12, n12, c12, rfl⟩ := huo.row.shp
    replace hb012 := Lib.hid hb012; replace hb12 := Lib.hid hb12; replace hx12 := Lib.hid hx12; replace hco12 := Lib.hid hco12; replace hco := Lib.hid hco
    go_wp2_with fail
    refine (ref8_same w12 _ _ _ _ p p huo.row hx12.out).mono ?_
    rintro e w13 ⟨rfl, hb13⟩
    rw [hself.out]
    have hb013 := Below.step hb012.out hb13
    have hx13 := hx.below hb013
    have hco13 := hco12.out.below hb13
    replace hb013 := Lib.hid hb013; replace hb13 := Lib.hid hb13; replace hx13 := Lib.hid hx13; replace hco13 := Lib.hid hco13; replace huo := Lib.hid huo
    go_wp2_with fail
    refine (path_below w13 _ _ _ _ (p ++ [n]) p hco13.out.row hx13.out).mono ?_
    rintro e w14 ⟨rfl, hb14⟩
    rw [hbc.out]
    have hb014 := Below.step hb013.out hb14
    have hx14 := hx.below hb014
    have hy14 := hy.below hb014
    have hco14 := hco13.out.below hb14
    replace hb014 := Lib.hid hb014; replace hb14 := Lib.hid hb14; replace hx14 := Lib.hid hx14; replace hy14 := Lib.hid hy14; replace hco14 := Lib.hid hco14
    go_wp2_with fail
    refine (path_compare w14 _ _ _ _ p (p ++ [n]) hx14.out hco14.out.row).mono ?_
    rintro e wa ⟨rfl, rfl⟩
    rw [hcc.out]
    go_wp2_with fail
    refine (path_compare w14 _ _ _ _ p q hx14.out hy14.out).mono ?_
    rintro e wa ⟨rfl, rfl⟩
    rw [ha.out]
    go_wp2_with fail
    refine (path_compare w14 _ _ _ _ q p hy14.out hx14.out).mono ?_
    rintro e wa ⟨rfl, rfl⟩
    rw [hb.out]
    go_wp2_with fail
    refine (path_compare w14 _ _ _ _ p q hx14.out hy14.out).mono ?_
    rintro e wa ⟨rfl, rfl⟩
    rw [ha.out]
    go_wp2_with fail
    refine (ref8_same w14 _ _ _ _ p q hx14.out hy14.out).mono ?_
    rintro e wy ⟨rfl, hby⟩
    rw [hs.out]
    have hb0y := Below.step hb014.out hby
    have hxy := hx.below hb0y
    have hyy := hy.below hb0y
    replace hb0y := Lib.hid hb0y; replace hby := Lib.hid hby; replace hxy := Lib.hid hxy; replace hyy := Lib.hid hyy
    rcases hcase with ⟨hs1, ha1⟩ | ⟨hs1, ha1⟩
    all_goals
      subst hs1
      rcases hdcase with hd1 | ⟨hd1, hb2⟩
      all_goals
        go_wp2_with fail
        refine (path_below wy _ _ _ _ p q hxy.out hyy.out).mono ?_
        rintro e wz ⟨rfl, hbz⟩
        rw [hd.out, hd1]
        have hb0z := Below.step hb0y.out hbz
        have hxz := hx.below hb0z
        have hyz := hy.below hb0z
        replace hb0z := Lib.hid hb0z; replace hbz := Lib.hid hbz; replace hxz := Lib.hid hxz; replace hyz := Lib.hid hyz
      · go_wp2
        go_ret
        exact ⟨rfl, hb0z.out⟩
      · go_wp2_with fail
        refine (path_compare wz _ _ _ _ q p hyz.out hxz.out).mono ?_
        rintro e wa ⟨rfl, rfl⟩
        rw [hb.out]
        go_wp2
        go_ret
        exact ⟨rfl, hb0z.out⟩
end Go.Proofs.YtbgkohfifcfofaaDoor
