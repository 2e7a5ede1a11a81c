/- The walk of regencylaw08.PathTells. -/
import Derived.Test.YtbgkohfifcfofaaDoorPathBackW
import Derived.Test.YtbgkohfifcfofaaDoorRef8P
import Derived.Deep.RegionWith
import Derived.Deep.DeepCutAuto
import Derived.BigQuiet
import Derived.Deep.RegionHeld
set_option linter.unusedVariables false
set_option linter.unusedSimpArgs false
set_option maxRecDepth 100000
open Go.RowKit
namespace Go.Proofs.YtbgkohfifcfofaaDoor
open Go.Proofs
theorem path_tells_skip (w : World) (F : Nat → Prop) (v : Value) (p : List Int) (s : ByteArray) (n : Int) (hx : Row encI w F v p) (hv : VarW w) (ht : TabW w) (hl : 100 < p.length ∨ 300 < s.size) :
    Calls Tryd.prog 4 #[v, .string s, .int .i64 n] w (RetB (.bool true) w) := by
  obtain ⟨A, c, rfl, hc1, hc2⟩ := hx.shape
  simp only [maxLen] at hc2
  by_cases h1 : 100 < p.length
  · clear hl
    go_enter Tryd.func4, Tryd.ntmps4
    go_wp2_with fail
    refine (law_first w hv ht).mono ?_
    rintro e w1 ⟨rfl, hb1⟩
    go_wp2
    go_ret
    exact ⟨rfl, hb1⟩
  · have h2 : 300 < s.size := by omega
    clear hl
    go_enter Tryd.func4, Tryd.ntmps4
    go_wp2_with fail
    refine (law_first w hv ht).mono ?_
    rintro e w1 ⟨rfl, hb1⟩
    go_wp2
    go_ret
    exact ⟨rfl, hb1⟩
set_option maxHeartbeats 30000000 in
theorem path_tells (w : World) (F : Nat → Prop) (v : Value) (p : List Int) (s : List UInt8) (n : Int) (hx : Row encI w F v p) (hi : ∀ x ∈ p, I64 x) (hv : VarW w) (ht : TabW w) (hl : p.length ≤ 100) (hs : s.length ≤ 300) :
    Calls Tryd.prog 4 #[v, .string ⟨s.toArray⟩, .int .i64 n] w (RetB (.bool true) w) := by
  have hx := hx.inside
  obtain ⟨A, c, rfl, hc1, hc2⟩ := hx.shape
  simp only [maxLen] at hc2
  have hlB : (putB p).length ≤ 1000 := by
    have h1 := numB_len9 p.length (by omega)
    have h2 := putL_len p
    simp only [putB, List.length_append]
    omega
  have hsz := bytes_size s
  generalize hpp : refParse s = rr
  have hpe := parse_eq s
  rw [hpp] at hpe
  replace hi := Lib.hid hi; replace hpp := Lib.hid hpp; replace hpe := Lib.hid hpe
  go_enter Tryd.func4, Tryd.ntmps4
  go_wp2_with fail
  refine (law_first w hv ht).mono ?_
  rintro e w1 ⟨rfl, hb1⟩
  have hv1 : VarW w1 := hv.below hb1 (Nat.le_refl _)
  have ht1 : TabW w1 := ht.below hb1 (Nat.le_refl _)
  replace hb1 := Lib.hid hb1
  go_wp2_with fail
  refine (path_parse w1 s (by omega) hv1 ht1).mono ?_
  rintro e w2 ⟨q1, rfl, hb2, hq1⟩
  rw [hpe.out] at hq1 ⊢
  have hb02 := Below.step hb1.out hb2
  obtain ⟨A1, n1, c1, rfl⟩ := hq1.row.shp
  replace hb02 := Lib.hid hb02; replace hb2 := Lib.hid hb2; replace hq1 := Lib.hid hq1
  go_wp2_with fail
  refine (ref8_parse w2 s (by omega)).mono ?_
  rintro e w3 ⟨q2, rfl, hb3, hq2⟩
  rw [hpp.out] at hq2 ⊢
  have hb03 := Below.step hb02.out hb3
  have hq13 := hq1.out.below hb3
  obtain ⟨A2, n2, c2, rfl⟩ := hq2.row.shp
  have hx3 := hx.below hb03
  have ht3 : TabW w3 := ht.below hb03 (Nat.le_refl _)
  generalize rr.isSome = rb at *
  generalize rr.getD [] = rl at *
  have hrb : (rb != rb) = false := by simp
  have hrl : (rl == rl) = true := by simp
  generalize hpr : pathRight p = pr
  have hprb : (pr != pr) = false := by simp
  generalize hpt : ptextB p = pt
  replace hb03 := Lib.hid hb03; replace hb3 := Lib.hid hb3; replace hq2 := Lib.hid hq2; replace hq13 := Lib.hid hq13; replace hx3 := Lib.hid hx3; replace hpr := Lib.hid hpr; replace hpt := Lib.hid hpt; replace hrl := Lib.hid hrl
  go_wp2_with fail
  refine (path_right w3 _ _ p hx3.out).mono ?_
  rintro e w4 ⟨rfl, rfl⟩
  rw [hpr.out]
  go_wp2_with fail
  refine (ref8_right w3 _ _ p hx3.out).mono ?_
  rintro e w4 ⟨rfl, rfl⟩
  rw [hpr.out]
  go_wp2_with fail
  refine (path_text w3 _ _ p hx3.out (by omega) hi.out ht3).mono ?_
  rintro e w4 ⟨rfl, hb4⟩
  rw [hpt.out]
  have hb04 := Below.step hb03.out hb4
  have hx4 := hx.below hb04
  have hq14 := hq13.out.below hb4
  have hq24 := hq2.out.below hb4
  replace hb04 := Lib.hid hb04; replace hb4 := Lib.hid hb4; replace hx4 := Lib.hid hx4; replace hq14 := Lib.hid hq14; replace hq24 := Lib.hid hq24
  go_wp2_with fail
  refine (ref8_text w4 _ _ p hx4.out (by omega) hi.out).mono ?_
  rintro e w5 ⟨rfl, rfl⟩
  rw [hpt.out]
  go_wp2_with fail
  refine (ref8_same w4 _ _ _ _ rl rl hq14.out.row hq24.out.row).mono ?_
  rintro e w5 ⟨rfl, hb5⟩
  rw [hrl.out]
  have hb05 := Below.step hb04.out hb5
  have hx5 := hx.below hb05
  have hsz05 := hb05.size
  replace hb05 := Lib.hid hb05; replace hb5 := Lib.hid hb5
  go_wp2_with fail
  by_cases hp0 : p = []
  · subst hp0
    refine (path_parent_root w5 _ _ hx5).mono ?_
    rintro e w6 ⟨uv, rfl, hb6, huo⟩
    have hb06 := Below.step hb05.out hb6
    have hx6 := hx.below hb06
    obtain ⟨A6, c6, rfl, _, _⟩ := huo.row.shape
    replace hb06 := Lib.hid hb06; replace hb6 := Lib.hid hb6; replace huo := Lib.hid huo; replace hx6 := Lib.hid hx6; replace hx5 := Lib.hid hx5
    go_upto_region 12 with fail
    go_wp2_with fail
    refine (path_child w6 _ _ ([] : List Int) n (by omega) hx6.out).mono ?_
    rintro e wc ⟨cv, rfl, hbc, hco⟩
    have hb0c := Below.step hb06.out hbc
    have hxc := hx.below hb0c
    obtain ⟨Ac, nc, cc, rfl⟩ := hco.row.shp
    have hvE := Own.empty encI 3 wc wc.heap.size (Nat.le_refl _)
    have huE := (hxc.below ((Below.refl _ wc).alloc (Nat.le_refl _) (.cells #[] 3))).src
    have hbyE : (([] : List Int).length + ([] : List Int).length) * 8 ≤ 140737488355328 := by simp only [List.length_nil, Nat.zero_add]; omega
    have hszE : wc.heap.size ≤ (wc.alloc (.cells #[] 3)).heap.size := by simp
    replace hvE := Lib.hid hvE; replace huE := Lib.hid huE; replace hbyE := Lib.hid hbyE; replace hszE := Lib.hid hszE; replace hb0c := Lib.hid hb0c; replace hbc := Lib.hid hbc; replace hxc := Lib.hid hxc; replace hco := Lib.hid hco
    go_upto_region 14 with (first
      | (at_builtin; refine wp_app_own (fun _ => rfl) elI elI.t (by simp) hvE.out huE.out hbyE.out hszE.out rfl _ _ rfl rfl rfl ?_; rintro v1 wa ha; have hv2 := Lib.hid (ha.own.below ((Below.refl _ wa).alloc (Nat.le_refl _) (.cells #[.int .i64 n] 3))); have hu2 : Hid (Src (wa.alloc (.cells #[.int .i64 n] 3)) 1 (.slice (some ⟨wa.heap.size, 0, none⟩) 1 1) [n].length ([n].map encI)) := Lib.hid (Src.lit wa 1 #[.int .i64 n] 3 1 1 rfl); have hby2 : Hid ((([] ++ ([] : List Int) : List Int).length + [n].length) * 8 ≤ 140737488355328) := Lib.hid (by simp only [List.nil_append, List.length_singleton, List.length_nil]; omega); have hsz2 : Hid (wc.heap.size ≤ (wa.alloc (.cells #[.int .i64 n] 3)).heap.size) := Lib.hid (by have := ha.keep.size; simp at this; simp; omega); have hka := Lib.hid ha.keep; replace ha := Lib.hid ha)
      | (at_builtin; refine wp_app_own (fun _ => rfl) elI elI.t (by simp) hv2.out hu2.out hby2.out hsz2.out rfl _ _ rfl rfl rfl ?_; rintro v2 wb hA; have hkb := Lib.hid hA.keep; replace hA := Lib.hid hA))
    have hcx : Below wc.heap.size wc wb := by
      have k1 := ((Keeps.refl _ wc).alloc _).trans hka.out (fun b _ h => h)
      have k2 := ((Keeps.refl _ wa).alloc _).trans hkb.out (fun b _ h => h)
      have b1 := k1.belowB (Nat.le_refl _) (fun b hb he => by simp [Value.ownBlock] at he; omega)
      exact b1.trans (k2.belowB b1.size (fun b hb he => by have := (ha.out.own.lt b he).1; omega))
    have hxo : Own encI 3 wb wc.heap.size v2 (([] : List Int) ++ [n]) := by simpa using hA.out.own
    obtain ⟨Ax, nx, cx, rfl⟩ := hxo.row.shp
    have hb0b := Below.step hb0c.out hcx
    have hcob := hco.out.below hcx
    replace hcx := Lib.hid hcx; replace hxo := Lib.hid hxo; replace hb0b := Lib.hid hb0b; replace hcob := Lib.hid hcob
    clear hvE huE hbyE hszE hv2 hu2 hby2 hsz2 hka hkb ha hA
    go_wp2_with fail
    have hpen := pen_new wb
    have hb0d : Below w.heap.size w (wb.alloc (.cells #[.slice none 0 0] 47)) := hb0b.out.alloc hb0b.out.size _
    have hxod := hxo.out.below ((Below.refl _ wb).alloc (Nat.le_refl _) (.cells #[.slice none 0 0] 47))
    have hcod := hcob.out.below ((Below.refl _ wb).alloc (Nat.le_refl _) (.cells #[.slice none 0 0] 47))
    have hsd : wb.heap.size < (wb.alloc (.cells #[.slice none 0 0] 47)).heap.size := by simp
    generalize wb.alloc (.cells #[.slice none 0 0] 47) = wd at *
    have hxd := hx.below hb0d
    have hszb := hb0b.out.size
    refine (path_put wd wb.heap.size wb.heap.size [] _ _ ([] : List Int) hpen (by simp) hxd (fun b hb => by have := hb.2; omega) (by omega)).mono ?_
    rintro e wz ⟨vz, rfl, hbz, hpenz⟩
    rw [List.nil_append] at hpenz
    have hb0z := hb0d.trans (hbz.mono hszb)
    have hkz : Keeps (fun b => wb.heap.size ≤ b) wd wz := ⟨hbz.os, hbz.tape, hbz.output, hbz.size, fun b hb hn => hbz.block b (by omega)⟩
    have hxoz := hxod.keep hkz (fun b hb => by have := (hxo.out.lt b hb).2; omega)
    have hcoz := hcod.keep hkz (fun b hb => by have := (hcob.out.lt b hb).2; omega)
    have hxz := hx.below hb0z
    have hR1 : ∀ W, Below wz.heap.size wz W → Calls Tryd.prog 15 #[.slice Ax nx cx] W fun e w' => e = .returned (.bool (pathChild ([] : List Int) n)) ∧ W = w' := fun W hW => ref8_right W _ _ _ (hxoz.row.below hW)
    have hR2 : ∀ W, Below wz.heap.size wz W → Calls Tryd.prog 10 #[.slice Ac nc cc, .slice Ax nx cx] W (RetB (.bool ((if pathChild ([] : List Int) n then ([] : List Int) ++ [n] else []) == ([] : List Int) ++ [n])) W) := fun W hW => ref8_same W _ _ _ _ _ _ (hcoz.row.below hW) (hxoz.row.below hW)
    have hR3 : ∀ W, Below wz.heap.size wz W → Calls Tryd.prog 21 #[.pointer (some ⟨wb.heap.size, 0, none⟩)] W (RetOwn encB 5 (putB ([] : List Int)) W) := fun W hW => pen_bytes W _ _ _ (hpenz.below hW) (by omega)
    have hR4 : ∀ W, Below wz.heap.size wz W → Calls Tryd.prog 22 #[.slice A ([] : List Int).length c] W (RetB (.string ⟨(putB ([] : List Int)).toArray⟩) W) := fun W hW => ref8_put W _ _ _ (hxz.below hW) (by omega)
    have hnc := hcoz.row.len.1
    generalize putB ([] : List Int) = pb at *
    have hB1 : Below wz.heap.size wz wz.drew := (Below.refl _ wz).drew
    replace hR4 := Lib.hid hR4; replace hR3 := Lib.hid hR3; replace hb0d := Lib.hid hb0d; replace hb0z := Lib.hid hb0z; replace hbz := Lib.hid hbz; replace hpenz := Lib.hid hpenz; replace hpen := Lib.hid hpen; replace hkz := Lib.hid hkz; replace hxod := Lib.hid hxod; replace hcod := Lib.hid hcod; replace hxoz := Lib.hid hxoz; replace hcoz := Lib.hid hcoz; replace hxd := Lib.hid hxd; replace hxz := Lib.hid hxz
    cases hm : pathChild ([] : List Int) n with
    | true =>
      rw [hm] at hnc
      simp only [hm, if_true] at hR1 hR2
      have hnn : (([] : List Int) ++ [n] == ([] : List Int) ++ [n]) = true := by simp
      rw [hnn] at hR2
      replace hm := Lib.hid hm; replace hR1 := Lib.hid hR1; replace hR2 := Lib.hid hR2; replace hnc := Lib.hid hnc; replace hB1 := Lib.hid hB1; replace hnn := Lib.hid hnn
      go_wp2_with fail
      first
        | (go_region_held (fun w' => True) (trivial) (first
        | (go_at_call 15; refine (hR1.out _ hB1.out).mono ?_; rintro e wr ⟨rfl, rfl⟩)
        | (go_at_call 10; refine (hR2.out _ hB1.out).mono ?_; rintro e wr ⟨rfl, hbr⟩; have hB2 := Lib.hid (hB1.out.trans (hbr.mono hB1.out.size)); replace hbr := Lib.hid hbr)
        | (go_at_call 21; refine (hR3.out _ hB2.out).mono ?_; rintro e wr ⟨bv, rfl, hbr3, hbo⟩; have hB3 := Lib.hid (hB2.out.trans (hbr3.mono hB2.out.size)); have hcv := hbo.row.str (src := 22) (dst := 9) Tryd.underlying22 Tryd.underlying5 Tryd.underlying9; obtain ⟨Ab, nb, cb, rfl⟩ := hbo.row.shp; replace hbo := Lib.hid hbo; replace hbr3 := Lib.hid hbr3)
        | (go_at_call 22; refine (hR4.out _ hB3.out).mono ?_; rintro e wr4 ⟨rfl, hbr4⟩; have hB4 := Lib.hid (hB3.out.trans (hbr4.mono hB3.out.size)); have hcv4 := (hbo.out.row.below hbr4).str (src := 22) (dst := 9) Tryd.underlying22 Tryd.underlying5 Tryd.underlying9; replace hbr4 := Lib.hid hbr4)))
        | fail
      all_goals (go_wp2; go_ret; exact ⟨rfl, hb0z.out.trans (hB4.out.mono hb0z.out.size)⟩)
    | false =>
      rw [hm] at hnc
      simp only [hm, Bool.false_eq_true, if_false] at hR1 hR2
      have hnc0 : nc = 0 := by simpa using hnc
      subst hnc0
      replace hm := Lib.hid hm; replace hR1 := Lib.hid hR1; replace hR2 := Lib.hid hR2; replace hnc := Lib.hid hnc; replace hB1 := Lib.hid hB1
      go_wp2_with fail
      first
        | (go_region_held (fun w' => True) (trivial) (first
        | (go_at_call 15; refine (hR1.out _ hB1.out).mono ?_; rintro e wr ⟨rfl, rfl⟩)
        | (go_at_call 21; refine (hR3.out _ hB1.out).mono ?_; rintro e wr ⟨bv, rfl, hbr3, hbo⟩; have hB3 := Lib.hid (hB1.out.trans (hbr3.mono hB1.out.size)); have hcv := hbo.row.str (src := 22) (dst := 9) Tryd.underlying22 Tryd.underlying5 Tryd.underlying9; obtain ⟨Ab, nb, cb, rfl⟩ := hbo.row.shp; replace hbo := Lib.hid hbo; replace hbr3 := Lib.hid hbr3)
        | (go_at_call 22; refine (hR4.out _ hB3.out).mono ?_; rintro e wr4 ⟨rfl, hbr4⟩; have hB4 := Lib.hid (hB3.out.trans (hbr4.mono hB3.out.size)); have hcv4 := (hbo.out.row.below hbr4).str (src := 22) (dst := 9) Tryd.underlying22 Tryd.underlying5 Tryd.underlying9; replace hbr4 := Lib.hid hbr4)))
        | fail
      all_goals (go_wp2; go_ret; exact ⟨rfl, hb0z.out.trans (hB4.out.mono hb0z.out.size)⟩)
  · obtain ⟨xs, m, hpx⟩ : ∃ xs m, p = xs ++ [m] := ⟨p.dropLast, p.getLast hp0, (List.dropLast_concat_getLast hp0).symm⟩
    have hx5' : Row encI w5 (fun b => F b ∧ b < w.heap.size) (.slice A p.length c) (xs ++ [m]) := by rw [← hpx]; exact hx5
    have hlen : p.length = xs.length + 1 := by rw [hpx]; simp
    refine (path_parent w5 _ _ xs m (by omega) hx5').mono ?_
    rintro e w6 ⟨uv, rfl, hb6, huo⟩
    have hb06 := Below.step hb05.out hb6
    have hx6 := hx.below hb06
    obtain ⟨bb, oo, rfl, hF, hcell⟩ := hx6.at (k := xs.length) (x := m) (by rw [hpx]; simp)
    simp only [encI] at hcell
    have htk := hx6.take xs.length (by omega)
    have e0 : p.take xs.length = xs := by rw [hpx]; simp
    rw [e0] at htk
    obtain ⟨A6, n6, c6, rfl⟩ := huo.row.shp
    have hself : (xs == xs) = true := by simp
    have hmm : (m != m) = false := by simp
    generalize hkx : xs.length = k at *
    have hmk : ((p.length : Int) - 1) = (k : Int) := by omega
    have hk2 : (k : Int) < (p.length : Int) := by omega
    have hk1 : k < p.length := by omega
    have hkc : k ≤ c := by omega
    have hpos : (0 : Int) < (p.length : Int) := by omega
    replace hb06 := Lib.hid hb06; replace hb6 := Lib.hid hb6; replace huo := Lib.hid huo; replace hx6 := Lib.hid hx6; replace htk := Lib.hid htk; replace hself := Lib.hid hself; replace hpx := Lib.hid hpx; replace hlen := Lib.hid hlen; replace hkx := Lib.hid hkx; replace e0 := Lib.hid e0; replace hx5 := Lib.hid hx5; replace hx5' := Lib.hid hx5'; replace hp0 := Lib.hid hp0
    go_wp2_with fail
    refine (ref8_same w6 _ _ _ _ xs xs huo.out.row htk.out).mono ?_
    rintro e w7 ⟨rfl, hb7⟩
    rw [hself.out]
    have hb07 := Below.step hb06.out hb7
    have hx7 := hx.below hb07
    replace hb07 := Lib.hid hb07; replace hb7 := Lib.hid hb7; replace hx7 := Lib.hid hx7
    clear hcell hmk hk2 hk1 hkc hpos
    go_upto_region 12 with fail
    go_wp2_with fail
    refine (path_child w7 _ _ p n (by omega) hx7.out).mono ?_
    rintro e wc ⟨cv, rfl, hbc, hco⟩
    have hb0c := Below.step hb07.out hbc
    have hxc := hx.below hb0c
    obtain ⟨Ac, nc, cc, rfl⟩ := hco.row.shp
    have hvE := Own.empty encI 3 wc wc.heap.size (Nat.le_refl _)
    have huE := (hxc.below ((Below.refl _ wc).alloc (Nat.le_refl _) (.cells #[] 3))).src
    have hbyE : (([] : List Int).length + p.length) * 8 ≤ 140737488355328 := by simp only [List.length_nil, Nat.zero_add]; omega
    have hszE : wc.heap.size ≤ (wc.alloc (.cells #[] 3)).heap.size := by simp
    replace hvE := Lib.hid hvE; replace huE := Lib.hid huE; replace hbyE := Lib.hid hbyE; replace hszE := Lib.hid hszE; replace hb0c := Lib.hid hb0c; replace hbc := Lib.hid hbc; replace hxc := Lib.hid hxc; replace hco := Lib.hid hco
    go_upto_region 14 with (first
      | (at_builtin; refine wp_app_own (fun _ => rfl) elI elI.t (by simp) hvE.out huE.out hbyE.out hszE.out rfl _ _ rfl rfl rfl ?_; rintro v1 wa ha; have hv2 := Lib.hid (ha.own.below ((Below.refl _ wa).alloc (Nat.le_refl _) (.cells #[.int .i64 n] 3))); have hu2 : Hid (Src (wa.alloc (.cells #[.int .i64 n] 3)) 1 (.slice (some ⟨wa.heap.size, 0, none⟩) 1 1) [n].length ([n].map encI)) := Lib.hid (Src.lit wa 1 #[.int .i64 n] 3 1 1 rfl); have hby2 : Hid ((([] ++ p : List Int).length + [n].length) * 8 ≤ 140737488355328) := Lib.hid (by simp only [List.nil_append, List.length_singleton, List.length_nil]; omega); have hsz2 : Hid (wc.heap.size ≤ (wa.alloc (.cells #[.int .i64 n] 3)).heap.size) := Lib.hid (by have := ha.keep.size; simp at this; simp; omega); have hka := Lib.hid ha.keep; replace ha := Lib.hid ha)
      | (at_builtin; refine wp_app_own (fun _ => rfl) elI elI.t (by simp) hv2.out hu2.out hby2.out hsz2.out rfl _ _ rfl rfl rfl ?_; rintro v2 wb hA; have hkb := Lib.hid hA.keep; replace hA := Lib.hid hA))
    have hcx : Below wc.heap.size wc wb := by
      have k1 := ((Keeps.refl _ wc).alloc _).trans hka.out (fun b _ h => h)
      have k2 := ((Keeps.refl _ wa).alloc _).trans hkb.out (fun b _ h => h)
      have b1 := k1.belowB (Nat.le_refl _) (fun b hb he => by simp [Value.ownBlock] at he; omega)
      exact b1.trans (k2.belowB b1.size (fun b hb he => by have := (ha.out.own.lt b he).1; omega))
    have hxo : Own encI 3 wb wc.heap.size v2 (p ++ [n]) := by simpa using hA.out.own
    obtain ⟨Ax, nx, cx, rfl⟩ := hxo.row.shp
    have hb0b := Below.step hb0c.out hcx
    have hcob := hco.out.below hcx
    replace hcx := Lib.hid hcx; replace hxo := Lib.hid hxo; replace hb0b := Lib.hid hb0b; replace hcob := Lib.hid hcob
    clear hvE huE hbyE hszE hv2 hu2 hby2 hsz2 hka hkb ha hA
    go_wp2_with fail
    have hpen := pen_new wb
    have hb0d : Below w.heap.size w (wb.alloc (.cells #[.slice none 0 0] 47)) := hb0b.out.alloc hb0b.out.size _
    have hxod := hxo.out.below ((Below.refl _ wb).alloc (Nat.le_refl _) (.cells #[.slice none 0 0] 47))
    have hcod := hcob.out.below ((Below.refl _ wb).alloc (Nat.le_refl _) (.cells #[.slice none 0 0] 47))
    have hsd : wb.heap.size < (wb.alloc (.cells #[.slice none 0 0] 47)).heap.size := by simp
    generalize wb.alloc (.cells #[.slice none 0 0] 47) = wd at *
    have hxd := hx.below hb0d
    have hszb := hb0b.out.size
    refine (path_put wd wb.heap.size wb.heap.size [] _ _ p hpen (by simp) hxd (fun b hb => by have := hb.2; omega) (by omega)).mono ?_
    rintro e wz ⟨vz, rfl, hbz, hpenz⟩
    rw [List.nil_append] at hpenz
    have hb0z := hb0d.trans (hbz.mono hszb)
    have hkz : Keeps (fun b => wb.heap.size ≤ b) wd wz := ⟨hbz.os, hbz.tape, hbz.output, hbz.size, fun b hb hn => hbz.block b (by omega)⟩
    have hxoz := hxod.keep hkz (fun b hb => by have := (hxo.out.lt b hb).2; omega)
    have hcoz := hcod.keep hkz (fun b hb => by have := (hcob.out.lt b hb).2; omega)
    have hxz := hx.below hb0z
    have hR1 : ∀ W, Below wz.heap.size wz W → Calls Tryd.prog 15 #[.slice Ax nx cx] W fun e w' => e = .returned (.bool (pathChild p n)) ∧ W = w' := fun W hW => ref8_right W _ _ _ (hxoz.row.below hW)
    have hR2 : ∀ W, Below wz.heap.size wz W → Calls Tryd.prog 10 #[.slice Ac nc cc, .slice Ax nx cx] W (RetB (.bool ((if pathChild p n then p ++ [n] else []) == p ++ [n])) W) := fun W hW => ref8_same W _ _ _ _ _ _ (hcoz.row.below hW) (hxoz.row.below hW)
    have hR3 : ∀ W, Below wz.heap.size wz W → Calls Tryd.prog 21 #[.pointer (some ⟨wb.heap.size, 0, none⟩)] W (RetOwn encB 5 (putB p) W) := fun W hW => pen_bytes W _ _ _ (hpenz.below hW) (by omega)
    have hR4 : ∀ W, Below wz.heap.size wz W → Calls Tryd.prog 22 #[.slice (some ⟨bb, oo, none⟩) p.length c] W (RetB (.string ⟨(putB p).toArray⟩) W) := fun W hW => ref8_put W _ _ _ (hxz.below hW) (by omega)
    have hnc := hcoz.row.len.1
    generalize putB p = pb at *
    have hB1 : Below wz.heap.size wz wz.drew := (Below.refl _ wz).drew
    replace hR4 := Lib.hid hR4; replace hR3 := Lib.hid hR3; replace hb0d := Lib.hid hb0d; replace hb0z := Lib.hid hb0z; replace hbz := Lib.hid hbz; replace hpenz := Lib.hid hpenz; replace hpen := Lib.hid hpen; replace hkz := Lib.hid hkz; replace hxod := Lib.hid hxod; replace hcod := Lib.hid hcod; replace hxoz := Lib.hid hxoz; replace hcoz := Lib.hid hcoz; replace hxd := Lib.hid hxd; replace hxz := Lib.hid hxz
    cases hm : pathChild p n with
    | true =>
      rw [hm] at hnc
      simp only [hm, if_true] at hR1 hR2
      have hnn : (p ++ [n] == p ++ [n]) = true := by simp
      rw [hnn] at hR2
      replace hm := Lib.hid hm; replace hR1 := Lib.hid hR1; replace hR2 := Lib.hid hR2; replace hnc := Lib.hid hnc; replace hB1 := Lib.hid hB1; replace hnn := Lib.hid hnn
      go_wp2_with fail
      first
        | (go_region_held (fun w' => True) (trivial) (first
        | (go_at_call 15; refine (hR1.out _ hB1.out).mono ?_; rintro e wr ⟨rfl, rfl⟩)
        | (go_at_call 10; refine (hR2.out _ hB1.out).mono ?_; rintro e wr ⟨rfl, hbr⟩; have hB2 := Lib.hid (hB1.out.trans (hbr.mono hB1.out.size)); replace hbr := Lib.hid hbr)
        | (go_at_call 21; refine (hR3.out _ hB2.out).mono ?_; rintro e wr ⟨bv, rfl, hbr3, hbo⟩; have hB3 := Lib.hid (hB2.out.trans (hbr3.mono hB2.out.size)); have hcv := hbo.row.str (src := 22) (dst := 9) Tryd.underlying22 Tryd.underlying5 Tryd.underlying9; obtain ⟨Ab, nb, cb, rfl⟩ := hbo.row.shp; replace hbo := Lib.hid hbo; replace hbr3 := Lib.hid hbr3)
        | (go_at_call 22; refine (hR4.out _ hB3.out).mono ?_; rintro e wr4 ⟨rfl, hbr4⟩; have hB4 := Lib.hid (hB3.out.trans (hbr4.mono hB3.out.size)); have hcv4 := (hbo.out.row.below hbr4).str (src := 22) (dst := 9) Tryd.underlying22 Tryd.underlying5 Tryd.underlying9; replace hbr4 := Lib.hid hbr4)))
        | fail
      all_goals (go_wp2; go_ret; exact ⟨rfl, hb0z.out.trans (hB4.out.mono hb0z.out.size)⟩)
    | false =>
      rw [hm] at hnc
      simp only [hm, Bool.false_eq_true, if_false] at hR1 hR2
      have hnc0 : nc = 0 := by simpa using hnc
      subst hnc0
      replace hm := Lib.hid hm; replace hR1 := Lib.hid hR1; replace hR2 := Lib.hid hR2; replace hnc := Lib.hid hnc; replace hB1 := Lib.hid hB1
      go_wp2_with fail
      first
        | (go_region_held (fun w' => True) (trivial) (first
        | (go_at_call 15; refine (hR1.out _ hB1.out).mono ?_; rintro e wr ⟨rfl, rfl⟩)
        | (go_at_call 21; refine (hR3.out _ hB1.out).mono ?_; rintro e wr ⟨bv, rfl, hbr3, hbo⟩; have hB3 := Lib.hid (hB1.out.trans (hbr3.mono hB1.out.size)); have hcv := hbo.row.str (src := 22) (dst := 9) Tryd.underlying22 Tryd.underlying5 Tryd.underlying9; obtain ⟨Ab, nb, cb, rfl⟩ := hbo.row.shp; replace hbo := Lib.hid hbo; replace hbr3 := Lib.hid hbr3)
        | (go_at_call 22; refine (hR4.out _ hB3.out).mono ?_; rintro e wr4 ⟨rfl, hbr4⟩; have hB4 := Lib.hid (hB3.out.trans (hbr4.mono hB3.out.size)); have hcv4 := (hbo.out.row.below hbr4).str (src := 22) (dst := 9) Tryd.underlying22 Tryd.underlying5 Tryd.underlying9; replace hbr4 := Lib.hid hbr4)))
        | fail
      all_goals (go_wp2; go_ret; exact ⟨rfl, hb0z.out.trans (hB4.out.mono hb0z.out.size)⟩)
theorem path_tells_all (w : World) (v : Value) (p : List Int) (s : List UInt8) (n : Int) (hx : Row encI w (fun b => b < w.heap.size) v p) (hi : ∀ y ∈ p, (-9223372036854775808 ≤ y ∧ y ≤ 9223372036854775807)) (hsz : (⟨s.toArray⟩ : ByteArray).size ≤ maxLen) (hn : I64 n) (hv : VarW w) (ht : TabW w) :
    Calls Tryd.prog 4 #[v, .string ⟨s.toArray⟩, .int .i64 n] w (RetB (.bool true) w) := by
  by_cases hl : p.length ≤ 100
  · by_cases hs : s.length ≤ 300
    · exact path_tells w _ v p s n hx (fun y hy => hi y hy) hv ht hl hs
    · exact path_tells_skip w _ v p _ n hx hv ht (.inr (by rw [bytes_size]; omega))
  · exact path_tells_skip w _ v p _ n hx hv ht (.inl (by omega))
end Go.Proofs.YtbgkohfifcfofaaDoor
