/- The opening checks of the laws on chunks. -/
import Derived.Test.YtbgkohfifcfofaaRefHR
set_option linter.unusedVariables false
set_option linter.unusedSimpArgs false
set_option maxRecDepth 100000
open Go.RowKit
namespace Go.Proofs.Ytbgkohfifcfofaa
open Go.Proofs

def abcde : List UInt8 := [97, 98, 99, 100, 101]
theorem abc_right : (headOf abcde 2).right = true := by rw [headOf_right abcde 2 (by decide)]; decide
theorem abc_S : (headOf abcde 2).S = 2 := by unfold headOf; rw [show sizeB 2 = true from by decide]; rfl
theorem abc_L : (headOf abcde 2).L = 5 := by unfold headOf; rw [show sizeB 2 = true from by decide]; rfl
theorem abc_cnt : (headOf abcde 2).cnt = 3 := by have := Hd.cnt_eq abc_right; rw [abc_S, abc_L] at this; omega
theorem abc_len2 : (headOf abcde 2).len 2 = 1 := by unfold Hd.len; rw [abc_cnt, abc_S, abc_L]; decide
theorem abc_len0 : (headOf abcde 2).len 0 = 2 := by unfold Hd.len; rw [abc_cnt, abc_S, abc_L]; decide
theorem abc_cut : cutOf abcde 2 2 = some [101] := by unfold cutOf; rw [abc_len2]; decide
def st0 : St := [none, none, none]
def st1 : St := [none, none, some [101]]
theorem abc_st0 : List.replicate (headOf abcde 2).cnt (none : Option (List UInt8)) = st0 := by rw [abc_cnt]; rfl
theorem abc_put2 : putS (headOf abcde 2) st0 2 [101] = (0, st1) := by unfold putS; rw [abc_len2]; rfl
theorem abc_put0 : putS (headOf abcde 2) st1 0 [101] = (13, st1) := by unfold putS; rw [abc_len0]; rfl
theorem abc_miss : missS (headOf abcde 2) st1 = 2 := by unfold missS; rw [abc_cnt]; rfl
theorem abc_whole : wholeS (headOf abcde 2) st1 = ([], 41) := by unfold wholeS; rw [abc_miss]; rfl
theorem abc_next1 {r : Int} (h : NextIs 3 st1 1 r) : r = 1 := h.one (.inl ⟨1, rfl, by decide, by decide, by decide, fun j h1 h2 => by omega⟩)
theorem abc_next2 {r : Int} (h : NextIs 3 st1 2 r) : r = 0 := h.one (.inr (.inl ⟨0, rfl, by decide, by decide, fun j h1 h2 => by
  obtain rfl : j = 2 := by omega
  decide, fun j h1 => by omega⟩))
set_option maxHeartbeats 4000000 in
theorem chunk_first (w : World) : Calls Try.prog 8 #[] w (RetB (.bool true) w) := by
  have hv : (headOf abcde 2).v = .agg #[.int .i64 5, .int .i64 2, .int .i64 (headOf abcde 2).D] := by unfold Hd.v; rw [abc_S, abc_L]
  have hs2 : sizeB 2 = true := by decide
  generalize hh : headOf abcde 2 = h at *
  have kc := fun (w : World) (C : Array Value) (n c : Nat) => Lib.run_convert_bytes_const (P := Try.prog) w 22 5 C n c Try.underlying22 Try.underlying5
  have hrowW := row_lit encB w 5 (5, 6) abcde (by decide) 5 rfl (#[.int .u8 97, .int .u8 98, .int .u8 99, .int .u8 100, .int .u8 101]) rfl
  replace hv := Lib.hid hv; replace hh := Lib.hid hh; replace hs2 := Lib.hid hs2; replace hrowW := Lib.hid hrowW
  go_enter Try.func8, Try.ntmps8
  go_wp2_with fail
  have hb0 : Below w.heap.size w (w.alloc (.cells #[.int .u8 97, .int .u8 98, .int .u8 99, .int .u8 100, .int .u8 101] 5 (5, 6))) := (Below.refl _ w).alloc (Nat.le_refl _) _
  have hrow := hrowW.out.inside
  generalize w.alloc (.cells #[.int .u8 97, .int .u8 98, .int .u8 99, .int .u8 100, .int .u8 101] 5 (5, 6)) = w0 at *
  replace hrow := Lib.hid hrow; replace hb0 := Lib.hid hb0
  refine (head_of w0 _ _ abcde 2 hrow.out (by intro b hb; exact hb.2) (by decide)).mono ?_
  rintro e w1 ⟨rfl, hb1⟩
  rw [hh.out, hv.out, hs2.out]
  have hrow1 := hrow.out.below hb1
  have hsz1 := hb1.size
  have hrow1' := hrow1.below ((Below.refl _ w1).alloc (Nat.le_refl _) (.cells #[.int .i64 5, .int .i64 2, .int .i64 h.D] 31))
  have hb01 : Below w.heap.size w w1 := Below.step hb0.out hb1
  have hb02 : Below w.heap.size w (w1.alloc (.cells #[.int .i64 5, .int .i64 2, .int .i64 h.D] 31)) := hb01.alloc hb01.size _
  replace hrow1 := Lib.hid hrow1; replace hb1 := Lib.hid hb1; replace hb01 := Lib.hid hb01
  go_wp2_with fail
  have hg2 := heap_alloc_new w1 (.cells #[.int .i64 5, .int .i64 2, .int .i64 h.D] 31)
  generalize w1.alloc (.cells #[.int .i64 5, .int .i64 2, .int .i64 h.D] 31) = w2 at *
  have hls2 := lt_of_get hg2
  refine (chunk_cut w2 _ _ abcde 2 2 hrow1' (by intro b hb; have := hb.2; omega) (by decide)).mono ?_
  rintro e w3 ⟨c, rfl, hb3, hown⟩
  rw [abc_cut] at hown ⊢
  have hb03 := Below.step hb02 hb3
  have hg3 := (hb3.block _ hls2).trans hg2
  have d0 := cell_of_get hg3 (o := 0) rfl
  have d1 := cell_of_get hg3 (o := 1) rfl
  have d2 := cell_of_get hg3 (o := 2) rfl
  obtain ⟨A, n0, c0, rfl⟩ := hown.row.shp
  replace hown := Lib.hid hown; replace hb03 := Lib.hid hb03; replace hg3 := Lib.hid hg3; replace hb3 := Lib.hid hb3; replace hg2 := Lib.hid hg2; replace hb02 := Lib.hid hb02; replace hrow1' := Lib.hid hrow1'
  go_wp2_with fail
  rw [show (Value.agg #[.int .i64 5, .int .i64 2, .int .i64 h.D]) = h.v from hv.out.symm]
  refine (heap_new w3 h (by rw [← hh.out]; exact abc_right)).mono ?_
  rintro e w4 ⟨bh, bm, rfl, hb4, hbh, hbm, H4⟩
  rw [← hh.out, abc_st0, hh.out] at H4
  have hb04 := Below.step hb03.out hb4
  have hrow4 := (hown.out.row.inside).below hb4
  have hg4 := (hb4.block _ (lt_of_get hg3.out)).trans hg3.out
  replace hrow4 := Lib.hid hrow4; replace hb04 := Lib.hid hb04; replace hb4 := Lib.hid hb4; replace H4 := Lib.hid H4; replace hg4 := Lib.hid hg4
  go_wp2_with fail
  refine (heap_put w4 bh bm _ _ h st0 2 (by unfold I64h; omega) _ [101] H4.out hrow4.out).mono ?_
  rw [← hh.out, abc_put2, hh.out]
  rintro e w5 ⟨rfl, hk5, F5, H5, hF5⟩
  have hrow5 := hrow4.out.keep hk5 (fun b hb e => by have := hb.2; omega)
  have hb05 := hb04.out.trans (hk5.belowB hb04.out.size (fun b hb e => by have := hb03.out.size; omega))
  have hl3 := lt_of_get hg3.out
  have hg5 := hk5.get hg4.out (fun e => by omega)
  replace hrow5 := Lib.hid hrow5; replace hb05 := Lib.hid hb05; replace hk5 := Lib.hid hk5; replace H5 := Lib.hid H5; replace hF5 := Lib.hid hF5; replace hg5 := Lib.hid hg5
  go_wp2_with fail
  refine (heap_put w5 bh bm _ _ h st1 0 (by unfold I64h; omega) _ [101] H5.out hrow5.out).mono ?_
  rw [← hh.out, abc_put0, hh.out]
  rintro e w6 ⟨rfl, hk6, F6, H6, hF6⟩
  have hrow6 := hrow5.out.keep hk6 (fun b hb e => by have := hb.2; omega)
  have hb06 := hb05.out.trans (hk6.belowB hb05.out.size (fun b hb e => by have := hb03.out.size; omega))
  have hg6 := hk6.get hg5.out (fun e => by omega)
  replace hrow6 := Lib.hid hrow6; replace hb06 := Lib.hid hb06; replace hk6 := Lib.hid hk6; replace H6 := Lib.hid H6; replace hF6 := Lib.hid hF6; replace hg6 := Lib.hid hg6
  go_wp2_with fail
  refine (heap_bytes w6 bh bm _ h st1 H6.out).mono ?_
  rw [← hh.out, abc_whole, hh.out]
  rintro e w7 ⟨bv, rfl, hb7, ho7⟩
  obtain ⟨A7, n7, c7, rfl⟩ := ho7.row.shp
  have hrow7 := hrow6.out.below hb7
  have hcv := hrow7.str (src := 22) (dst := 9) Try.underlying22 Try.underlying5 Try.underlying9
  have hg7 := (hb7.block _ (lt_of_get hg6.out)).trans hg6.out
  have hb07 := Below.step hb06.out hb7
  have H7 := H6.out.below hb7
  clear d0 d1 d2
  have d0 := cell_of_get hg7 (o := 0) rfl
  have d1 := cell_of_get hg7 (o := 1) rfl
  have d2 := cell_of_get hg7 (o := 2) rfl
  replace hrow7 := Lib.hid hrow7; replace hb07 := Lib.hid hb07; replace hb7 := Lib.hid hb7; replace H7 := Lib.hid H7; replace hg7 := Lib.hid hg7; replace ho7 := Lib.hid ho7
  go_wp2_with fail
  rw [show (Value.agg #[.int .i64 5, .int .i64 2, .int .i64 h.D]) = h.v from hv.out.symm]
  refine (head_count w7 h).mono ?_
  rintro e w8 ⟨rfl, hb8⟩
  rw [show h.cnt = 3 from by rw [← hh.out]; exact abc_cnt]
  have hg8 := (hb8.block _ (lt_of_get hg7.out)).trans hg7.out
  have hb08 := Below.step hb07.out hb8
  have H8 := H7.out.below hb8
  replace hb08 := Lib.hid hb08; replace hb8 := Lib.hid hb8; replace H8 := Lib.hid H8
  clear d0 d1 d2
  have d0 := cell_of_get hg8 (o := 0) rfl
  have d1 := cell_of_get hg8 (o := 1) rfl
  have d2 := cell_of_get hg8 (o := 2) rfl
  replace hg8 := Lib.hid hg8
  go_wp2_with fail
  refine (heap_missing w8 bh bm _ h st1 H8.out).mono ?_
  rw [← hh.out, abc_miss, hh.out]
  rintro e w9 ⟨rfl, hb9⟩
  have hg9 := (hb9.block _ (lt_of_get hg8.out)).trans hg8.out
  have hb09 := Below.step hb08.out hb9
  have H9 := H8.out.below hb9
  replace hb09 := Lib.hid hb09; replace hb9 := Lib.hid hb9; replace H9 := Lib.hid H9
  clear d0 d1 d2
  have d0 := cell_of_get hg9 (o := 0) rfl
  have d1 := cell_of_get hg9 (o := 1) rfl
  have d2 := cell_of_get hg9 (o := 2) rfl
  replace hg9 := Lib.hid hg9
  go_wp2_with fail
  refine (heap_next w9 bh bm _ h st1 1 (by unfold I64h; omega) H9.out).mono ?_
  rintro e w10 ⟨r, rfl, hr, hb10⟩
  have hg10 := (hb10.block _ (lt_of_get hg9.out)).trans hg9.out
  have hb010 := Below.step hb09.out hb10
  have H10 := H9.out.below hb10
  rw [show h.cnt = 3 from by rw [← hh.out]; exact abc_cnt] at hr
  obtain rfl := abc_next1 hr
  replace hb010 := Lib.hid hb010; replace hb10 := Lib.hid hb10; replace H10 := Lib.hid H10
  clear d0 d1 d2
  have d0 := cell_of_get hg10 (o := 0) rfl
  have d1 := cell_of_get hg10 (o := 1) rfl
  have d2 := cell_of_get hg10 (o := 2) rfl
  replace hg10 := Lib.hid hg10
  go_wp2_with fail
  refine (heap_next w10 bh bm _ h st1 2 (by unfold I64h; omega) H10.out).mono ?_
  rintro e w11 ⟨r, rfl, hr, hb11⟩
  have hg11 := (hb11.block _ (lt_of_get hg10.out)).trans hg10.out
  have hb011 := Below.step hb010.out hb11
  have H11 := H10.out.below hb11
  rw [show h.cnt = 3 from by rw [← hh.out]; exact abc_cnt] at hr
  obtain rfl := abc_next2 hr
  replace hb011 := Lib.hid hb011; replace hb11 := Lib.hid hb11; replace H11 := Lib.hid H11
  clear d0 d1 d2
  have d0 := cell_of_get hg11 (o := 0) rfl
  have d1 := cell_of_get hg11 (o := 1) rfl
  have d2 := cell_of_get hg11 (o := 2) rfl
  replace hg11 := Lib.hid hg11
  go_wp2_with fail
  rw [show (Value.agg #[.int .i64 5, .int .i64 2, .int .i64 h.D]) = h.v from hv.out.symm]
  refine (head_right w11 h).mono ?_
  rintro e w12 ⟨rfl, hb12⟩
  rw [show h.right = true from by rw [← hh.out]; exact abc_right]
  go_wp2
  go_ret
  exact ⟨rfl, Below.step hb011.out hb12⟩
end Go.Proofs.Ytbgkohfifcfofaa
