/- The walks of regencyref08.Get, Same and Right. -/
import Derived.Test.YtbgkohfifcfofaaDoorRef3T
import Derived.Test.YtbgkohfifcfofaaDoorPathG
import Derived.Test.YtbgkohfifcfofaaDoorPathR
set_option linter.unusedVariables false
set_option linter.unusedSimpArgs false
set_option maxRecDepth 100000
open Go.RowKit
namespace Go.Proofs.YtbgkohfifcfofaaDoor
open Go.Proofs
def RetRGet {α : Type} (enc : α → Value) (e : TypeId) (l : List α) (er : Nat) (bx : Nat) (t : TP) (w : World) : Ending → World → Prop := fun en w' =>
  ∃ v, en = .returned (.tuple #[v, .int .i64 (er : Int)]) ∧ Keeps (fun b => b = bx) w w' ∧ Own enc e w' w.heap.size v l ∧ RTapeAt w' bx t
theorem RTapeAt.lt {w : World} {bx : Nat} {t : TP} (h : RTapeAt w bx t) : bx < w.heap.size := lt_of_get h.at_
set_option maxHeartbeats 1000000 in
theorem ref8_get (w : World) (bx : Nat) (t : TP) (h : RTapeAt w bx t) :
    Calls Tryd.prog 9 #[.pointer (some ⟨bx, 0, none⟩)] w (RetRGet encI 3 (pathGet t) (pathGetE t) bx (pathGetT t).2 w) := by
  have h6 := TP.number_le t 6
  have hbt := h.lt
  generalize hn : (t.number 6).1 = n at *
  generalize hl : pathGet t = pl
  generalize he : pathGetE t = pe
  generalize ht : (pathGetT t).2 = pt
  replace hl := Lib.hid hl; replace he := Lib.hid he; replace ht := Lib.hid ht; replace hn := Lib.hid hn
  go_enter Tryd.func9, Tryd.ntmps9
  go_wp2_with fail
  refine (rtape_number _ _ _ 6 6 rfl h).mono ?_
  rintro e w1 ⟨rfl, hk1, hT1⟩
  rw [hn.out]
  have hsz1 := hk1.size
  replace hk1 := Lib.hid hk1
  go_wp2_with fail
  go_loopw [4, 6] (fun v i wr => ∃ k : Nat, k ≤ n ∧ i = .int .i64 k ∧ Keeps (fun b => b = bx) w wr ∧ Own encI 3 wr w.heap.size v (readN 1048576 k (t.number 6).2).1 ∧
    RTapeAt wr bx (readN 1048576 k (t.number 6).2).2) (fun _ i _ => n - (intOf i).toNat)
  case atStart => exact ⟨0, Nat.zero_le _, rfl, hk1.out, Own.nil _ _ _ _, hT1⟩
  case round =>
    obtain ⟨k, hk, rfl, hkeep, hown, hT⟩ := hrel
    by_cases hlt : k < n
    · obtain ⟨A, n0, c0, rfl⟩ := hown.row.shp
      go_wp2_with fail
      refine (rtape_number _ _ _ 1048576 1048576 rfl hT).mono ?_
      rintro e w2 ⟨rfl, hk2, hT2⟩
      generalize hx : ((readN 1048576 k (t.number 6).2).2.number 1048576).1 = x at *
      have hown2 : Own encI 3 w2 w.heap.size (.slice A n0 c0) (readN 1048576 k (t.number 6).2).1 := hown.keep hk2 (fun b hb he => by have := (hown.lt b hb).1; omega)
      have hv := hown2.below ((Below.refl _ w2).alloc (Nat.le_refl _) (.cells #[.int .i64 (x : Int)] 3))
      have hu : Src (w2.alloc (.cells #[.int .i64 (x : Int)] 3)) 1 (.slice (some ⟨w2.heap.size, 0, none⟩) 1 1) [(x : Int)].length ([(x : Int)].map encI) := Src.lit w2 1 #[.int .i64 (x : Int)] 3 1 1 rfl
      have hby : ((readN 1048576 k (t.number 6).2).1.length + [(x : Int)].length) * 8 ≤ 140737488355328 := by rw [readN_len]; simp; omega
      have hsz : w.heap.size ≤ (w2.alloc (.cells #[.int .i64 (x : Int)] 3)).heap.size := by have := hkeep.size; have := hk2.size; simp; omega
      replace hv := Lib.hid hv; replace hu := Lib.hid hu; replace hby := Lib.hid hby; replace hsz := Lib.hid hsz; replace hx := Lib.hid hx
      go_wp2_with (at_builtin; go_must (refine wp_app_own (fun _ => rfl) elI elI.t (by simp) hv.out hu.out hby.out hsz.out rfl _ _ rfl rfl rfl ?_); rintro v' w3 ha; replace ha := Lib.hid ha)
      have ha := ha.out
      have hkk : Keeps (fun b => (Value.slice A n0 c0).ownBlock = some b) w2 w3 := ((Keeps.refl _ w2).alloc _).trans ha.keep (fun b _ h => h)
      go_roundw
      case rel =>
        refine ⟨k + 1, by omega, by go_num, ?_, ?_, ?_⟩
        · exact (hkeep.trans hk2 (fun _ _ h => h)).trans hkk (fun b hb he => by have := (hown.lt b he).1; omega)
        · have := ha.own
          simp only [readN, hx.out]
          exact this
        · have h3 : RTapeAt w3 bx ((readN 1048576 k (t.number 6).2).2.number 1048576).2 := hT2.keep hkk (fun he => by have := (hown.lt bx he).1; omega)
          exact h3
      case measure => simp [intOf]; omega
    · have hkn : k = n := by omega
      subst hkn
      have hgt : pathGetT t = readN 1048576 k (t.number 6).2 := by unfold pathGetT; rw [hn.out]
      have hpt : (readN 1048576 k (t.number 6).2).2 = pt := by rw [← hgt]; exact ht.out
      rw [hpt] at hT
      replace hgt := Lib.hid hgt
      replace hpt := Lib.hid hpt
      obtain ⟨A, n0, c0, rfl⟩ := hown.row.shp
      replace hown := Lib.hid hown
      have hc1 : wr.cell? ⟨bx, 1, none⟩ = some (.int .i64 ((pt.er.getD 0 : Nat) : Int)) := cell_of_get hT.at_ rfl
      cases her : pt.er with
      | none =>
        have hpl : pl = (readN 1048576 k (t.number 6).2).1 := by rw [← hl.out]; unfold pathGet; rw [ht.out, her, hgt.out]; simp
        have hpe : pe = 0 := by rw [← he.out]; unfold pathGetE; rw [ht.out, her]; simp
        rw [her] at hc1
        simp only [Option.getD_none] at hc1
        replace her := Lib.hid her; replace hpl := Lib.hid hpl; replace hpe := Lib.hid hpe
        go_wp2
        go_ret2
        exact ⟨_, by rw [hpe.out]; rfl, hkeep, by rw [hpl.out]; exact hown.out, hT⟩
      | some e0 =>
        have hpl : pl = [] := by rw [← hl.out]; unfold pathGet; rw [ht.out, her]; simp
        have hpe : pe = 10 := by rw [← he.out]; unfold pathGetE; rw [ht.out, her]; simp
        have he0 : e0 ≠ 0 := by intro h0; exact hT.ne (by rw [her, h0])
        have hne : ((e0 : Int) != 0) = true := by simp only [bne_iff_ne, ne_eq]; omega
        rw [her] at hc1
        simp only [Option.getD_some] at hc1
        replace her := Lib.hid her; replace hpl := Lib.hid hpl; replace hpe := Lib.hid hpe
        go_wp2
        go_ret2
        exact ⟨_, by rw [hpe.out]; rfl, hkeep, by rw [hpl.out]; exact Own.nil _ _ _ _, hT⟩
set_option maxHeartbeats 400000 in
theorem ref8_sameQ (w : World) (F G : Nat → Prop) (v u : Value) (xs ys : List Int) (hx : Row encI w F v xs) (hy : Row encI w G u ys) :
    Calls Tryd.prog 10 #[v, u] w (RetQ (.bool (xs == ys)) w) := by
  obtain ⟨A, c, rfl, hc1, hc2⟩ := hx.shape
  obtain ⟨B, d, rfl, hd1, hd2⟩ := hy.shape
  simp only [maxLen] at hc2 hd2
  by_cases hl : xs.length = ys.length
  · have hb : ((xs.length : Int) != (ys.length : Int)) = false := by simp [hl]
    replace hl := Lib.hid hl
    replace hx := Lib.hid hx
    replace hy := Lib.hid hy
    go_enter Tryd.func10, Tryd.ntmps10
    go_wp2
    go_loopw [5, 13] (fun _ i wr => ∃ k : Nat, k ≤ xs.length ∧ i = .int .i64 k ∧ xs.take k = ys.take k ∧ ∃ n, wr = w.drewN n) (fun _ i _ => xs.length - (intOf i).toNat)
    case atStart => exact ⟨0, Nat.zero_le _, rfl, rfl, 0, rfl⟩
    case round =>
      obtain ⟨k, hk, rfl, htk, q, rfl⟩ := hrel
      replace htk := Lib.hid htk
      by_cases hlt : k < xs.length
      · obtain ⟨x, hxk⟩ := get_some_of_lt hlt
        obtain ⟨y, hyk⟩ := get_some_of_lt (show k < ys.length by have := hl.out; omega)
        obtain ⟨b, o, rfl, _, hck⟩ := hx.out.at hxk
        obtain ⟨b', o', rfl, _, hck'⟩ := hy.out.at hyk
        simp only [encI] at hck hck'
        replace hxk := Lib.hid hxk
        replace hyk := Lib.hid hyk
        have hlt2 : k < ys.length := by have := hl.out; omega
        by_cases hxy : x = y
        · subst hxy
          go_wp2_with fail
          go_quiet (fail)
          go_wp2
          go_roundw
          case rel => exact ⟨k + 1, by omega, by go_num, by rw [take_snoc_get hxk.out, take_snoc_get hyk.out, htk.out], ⟨_, rfl⟩⟩
          case measure => simp [intOf]; omega
        · have hne : (x != y) = true := by simp only [bne_iff_ne, ne_eq]; exact hxy
          have hf : (xs == ys) = false := by
            simp only [beq_eq_false_iff_ne, ne_eq]; intro h; rw [h] at hxk; have := hxk.out.symm.trans hyk.out; cases this; exact hxy rfl
          replace hf := Lib.hid hf
          replace hxy := Lib.hid hxy
          go_wp2_with fail
          go_quiet (fail)
          go_wp2
          go_ret
          exact ⟨by rw [hf.out]; rfl, ⟨_, World.drewN_drewN _ _ _⟩⟩
      · have : k = xs.length := by omega
        subst this
        have e : xs = ys := by
          have := htk.out
          rw [List.take_of_length_le (by omega), List.take_of_length_le (by have := hl.out; omega)] at this
          exact this
        replace e := Lib.hid e
        go_wp2
        go_ret
        exact ⟨by rw [e.out]; simp, ⟨_, rfl⟩⟩
  · have hb : ((xs.length : Int) != (ys.length : Int)) = true := by simp only [bne_iff_ne, ne_eq]; omega
    have hf : (xs == ys) = false := by simp only [beq_eq_false_iff_ne, ne_eq]; intro h; exact hl (by rw [h])
    replace hf := Lib.hid hf
    go_enter Tryd.func10, Tryd.ntmps10
    go_wp2
    go_ret
    exact ⟨by rw [hf.out]; rfl, ⟨0, rfl⟩⟩
theorem ref8_same (w : World) (F G : Nat → Prop) (v u : Value) (xs ys : List Int) (hx : Row encI w F v xs) (hy : Row encI w G u ys) :
    Calls Tryd.prog 10 #[v, u] w (RetB (.bool (xs == ys)) w) := (ref8_sameQ w F G v u xs ys hx hy).mono fun e w' h => h.below
theorem okN_eq (n : Int) : okN n = (!(decide (n < 0) || decide (1048576 < n))) := by
  unfold okN
  rw [Bool.eq_iff_iff]
  simp
theorem right_take (xs : List Int) (k : Nat) (x : Int) (hx : xs[k]? = some x) (h : (xs.take k).all okN = true) (hb : okN x = false) : pathRight xs = false := by
  unfold pathRight
  have : xs.all okN = false := by
    rw [List.all_eq_false]
    exact ⟨x, List.mem_of_getElem? hx, by simp [hb]⟩
  rw [this]; simp
set_option maxHeartbeats 400000 in
theorem ref8_right (w : World) (F : Nat → Prop) (v : Value) (xs : List Int) (hx : Row encI w F v xs) :
    Calls Tryd.prog 15 #[v] w fun e w' => e = .returned (.bool (pathRight xs)) ∧ w = w' := by
  obtain ⟨A, c, rfl, hc1, hc2⟩ := hx.shape
  simp only [maxLen] at hc2
  generalize hr : pathRight xs = r
  replace hr := Lib.hid hr
  replace hx := Lib.hid hx
  go_enter Tryd.func15, Tryd.ntmps15
  go_wp2
  go_loop [4, 7] (fun _ i => ∃ k : Nat, k ≤ xs.length ∧ i = .int .i64 k ∧ Hid ((xs.take k).all okN = true)) (fun _ i => xs.length - (intOf i).toNat)
  case atStart => exact ⟨0, Nat.zero_le _, rfl, Lib.hid (by simp)⟩
  case round =>
    obtain ⟨k, hk, rfl, hall⟩ := hrel
    by_cases hlt : k < xs.length
    · obtain ⟨x, hxk⟩ := get_some_of_lt hlt
      obtain ⟨b, o, rfl, _, hck⟩ := hx.out.at hxk
      simp only [encI] at hck
      have hxe := okN_eq x
      replace hxk := Lib.hid hxk
      by_cases h1 : x < 0
      · have hres : pathRight xs = false := right_take xs k x hxk.out hall.out (by rw [hxe]; simp [h1])
        replace hres := Lib.hid hres; replace hxe := Lib.hid hxe
        go_wp2
        go_ret
        exact ⟨by rw [← hr.out, hres.out]; rfl, rfl⟩
      · by_cases h2 : 1048576 < x
        · have hres : pathRight xs = false := right_take xs k x hxk.out hall.out (by rw [hxe]; simp [h2])
          replace hres := Lib.hid hres; replace hxe := Lib.hid hxe
          go_wp2
          go_ret
          exact ⟨by rw [← hr.out, hres.out]; rfl, rfl⟩
        · have hnx : (xs.take (k + 1)).all okN = true := by
            rw [take_snoc_get hxk.out, List.all_append, hall.out]; simp [hxe, h1, h2]
          replace hnx := Lib.hid hnx; replace hxe := Lib.hid hxe
          go_wp2
          go_round
          case rel => exact ⟨k + 1, by omega, by go_num, hnx⟩
          case measure => simp [intOf]; omega
    · have hres : pathRight xs = decide (xs.length ≤ 6) := by
        unfold pathRight
        have := hall.out
        rw [List.take_of_length_le (by omega)] at this
        rw [this]; simp
      replace hres := Lib.hid hres
      go_wp2
      go_ret
      exact ⟨by rw [← hr.out, hres.out]; simp; omega, rfl⟩
end Go.Proofs.YtbgkohfifcfofaaDoor
