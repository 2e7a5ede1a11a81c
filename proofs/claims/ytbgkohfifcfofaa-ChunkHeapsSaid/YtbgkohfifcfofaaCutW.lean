/- Heads of bytes, and their chunks, as the program cuts them. -/
import Derived.Test.YtbgkohfifcfofaaHeadW
set_option linter.unusedVariables false
set_option linter.unusedSimpArgs false
set_option maxRecDepth 100000
open Go.RowKit
namespace Go.Proofs.Ytbgkohfifcfofaa
open Go.Proofs

def headOf (xs : List UInt8) (n : Int) : Hd := if sizeB n then ⟨xs.length, n, digOf xs⟩ else ⟨0, 0, 0⟩
theorem headOf_right (xs : List UInt8) (n : Int) (hl : xs.length ≤ 1000000) : (headOf xs n).right = sizeB n := by
  have := digOf_range xs
  unfold headOf
  split
  · rename_i h
    have h' := of_decide_eq_true h
    rw [h]
    rw [Hd.right_iff]
    simp only
    omega
  · rename_i h
    rw [Bool.not_eq_true] at h
    rw [h]
    decide
set_option maxHeartbeats 1000000 in
theorem head_of (w : World) (F : Nat → Prop) (v : Value) (xs : List UInt8) (n : Int) (hr : Row encB w F v xs) (hF : ∀ b, F b → b < w.heap.size) (hl : xs.length ≤ 1000000) :
    Calls Try.prog 25 #[v, .int .i64 n] w (RetB (.tuple #[(headOf xs n).v, .bool (sizeB n)]) w) := by
  obtain ⟨A, c, rfl, hc1, hc2⟩ := hr.shape
  simp only [maxLen] at hc2
  unfold Hd.v headOf
  cases hs : sizeB n with
  | true =>
    simp only [if_true]
    go_enter Try.func25, Try.ntmps25
    go_wp2_with fail
    refine (size_ok _ _).mono ?_
    rintro e w' ⟨rfl, rfl⟩
    go_wp2_with fail
    refine (digest_of _ F _ xs (hr.below ((Below.refl _ w).alloc (Nat.le_refl _) _)) (by intro b hb; have := hF b hb; simp; omega)).mono ?_
    rintro e w1 ⟨rfl, hb⟩
    have hg := (hb.block w.heap.size (by simp)).trans (heap_alloc_new w _)
    have c0 := cell_of_get hg (o := 0) rfl
    have c1 := cell_of_get hg (o := 1) rfl
    have c2 := cell_of_get hg (o := 2) rfl
    have f0 := free_of_get hg (o := 0)
    have f1 := free_of_get hg (o := 1)
    have f2 := free_of_get hg (o := 2)
    replace hg := Lib.hid hg
    go_wp2
    have hB : Below w.heap.size w w1 := Below.step ((Below.refl _ w).alloc (Nat.le_refl _) _) hb
    exact bodyPost_ret (v := .tuple #[.agg #[.int .i64 xs.length, .int .i64 n, .int .i64 (digOf xs)], .bool true]) (by simp [results, Try.results25, go_sem, c0, c1, c2, f0, f1, f2]) rfl ⟨rfl, ((hB.setCell (Nat.le_refl _) _).setCell (Nat.le_refl _) _).setCell (Nat.le_refl _) _⟩
  | false =>
    simp only [Bool.false_eq_true, if_false]
    go_enter Try.func25, Try.ntmps25
    go_wp2_with fail
    refine (size_ok _ _).mono ?_
    rintro e w' ⟨rfl, rfl⟩
    go_wp2
    exact bodyPost_ret (v := .tuple #[.agg #[.int .i64 0, .int .i64 0, .int .i64 0], .bool false]) (by simp [results, Try.results25, go_sem]) rfl ⟨rfl, (Below.refl _ w).alloc (Nat.le_refl _) _⟩
/-- the chunk of the bytes; none: there is none -/
def cutOf (xs : List UInt8) (n i : Int) : Option (List UInt8) := if (headOf xs n).len i < 0 then none else some ((xs.drop (i * n).toNat).take ((headOf xs n).len i).toNat)
theorem headOf_len (xs : List UInt8) (n i : Int) (hl : xs.length ≤ 1000000) : (headOf xs n).len i < 0 ∨ (sizeB n = true ∧ 0 ≤ i ∧ 1 ≤ n ∧ n ≤ 512 ∧ 0 ≤ i * n ∧ 0 ≤ (headOf xs n).len i ∧ (headOf xs n).len i ≤ 512 ∧ i * n + (headOf xs n).len i ≤ xs.length) := by
  by_cases hi : i < 0 ∨ ((headOf xs n).cnt : Int) ≤ i
  · left; rw [Hd.len_no i hi]; decide
  · right
    cases hs : sizeB n with
    | false =>
      have := Hd.cnt_no (h := headOf xs n) (by rw [headOf_right xs n hl, hs])
      omega
    | true =>
      have hr : (headOf xs n).right = true := by rw [headOf_right xs n hl, hs]
      obtain ⟨a0, a1, a2, a3, _⟩ := Hd.len_alt hr i (by omega) (by omega)
      have b4 : (headOf xs n).len i ≤ 512 := by
        have := ((Hd.right_iff _).1 hr).2.2.2.1
        omega
      have e1 : (headOf xs n).S = n := by unfold headOf; rw [hs]; rfl
      have e2 : (headOf xs n).L = xs.length := by unfold headOf; rw [hs]; rfl
      rw [e1] at a0 a1 a2
      rw [e1, e2] at a3
      rw [e2] at a1 a2
      have := of_decide_eq_true hs
      refine ⟨rfl, ?_, ?_, ?_, ?_, ?_, ?_, ?_⟩ <;> omega
set_option maxHeartbeats 1000000 in
theorem chunk_cut (w : World) (F : Nat → Prop) (v : Value) (xs : List UInt8) (n i : Int) (hr : Row encB w F v xs) (hF : ∀ b, F b → b < w.heap.size) (hl : xs.length ≤ 1000000) :
    Calls Try.prog 15 #[v, .int .i64 n, .int .i64 i] w (RetOwn2 encB 5 ((cutOf xs n i).getD []) (cutOf xs n i).isSome w) := by
  obtain ⟨A, c, rfl, hc1, hc2⟩ := hr.shape
  simp only [maxLen] at hc2
  have hcs := headOf_len xs n i hl
  have hcut : cutOf xs n i = if (headOf xs n).len i < 0 then none else some ((xs.drop (i * n).toNat).take ((headOf xs n).len i).toNat) := rfl
  generalize cutOf xs n i = cu at *
  generalize hh : headOf xs n = h at *
  rcases hcs with hneg | ⟨hs, hi0, hn1, hn2, hm0, hm1, hm2, hm3⟩
  · rw [if_pos hneg] at hcut
    subst hcut
    replace hr := Lib.hid hr; replace hF := Lib.hid hF; replace hh := Lib.hid hh
    generalize hln : h.len i = k at *
    replace hln := Lib.hid hln
    cases hs : sizeB n with
    | true =>
      replace hs := Lib.hid hs
      go_enter Try.func15, Try.ntmps15
      go_wp2_with fail
      refine (head_of w F _ xs n hr.out hF.out hl).mono ?_
      rintro e w1 ⟨rfl, hb1⟩
      rw [hs.out, hh.out]
      unfold Hd.v
      go_wp2_with fail
      refine (head_length _ h i).mono ?_
      rintro e w2 ⟨rfl, hb2⟩
      rw [hln.out]
      go_wp2
      go_ret2
      exact ⟨_, rfl, Below.step (Below.step hb1 ((Below.refl _ w1).alloc (Nat.le_refl _) _)) hb2, Own.nil _ _ _ _⟩
    | false =>
      replace hs := Lib.hid hs
      go_enter Try.func15, Try.ntmps15
      go_wp2_with fail
      refine (head_of w F _ xs n hr.out hF.out hl).mono ?_
      rintro e w1 ⟨rfl, hb1⟩
      rw [hs.out, hh.out]
      unfold Hd.v
      go_wp2_with fail
      refine (head_length _ h i).mono ?_
      rintro e w2 ⟨rfl, hb2⟩
      rw [hln.out]
      go_wp2
      go_ret2
      exact ⟨_, rfl, Below.step (Below.step hb1 ((Below.refl _ w1).alloc (Nat.le_refl _) _)) hb2, Own.nil _ _ _ _⟩
  · rw [if_neg (by omega)] at hcut
    subst hcut
    replace hr := Lib.hid hr; replace hF := Lib.hid hF; replace hh := Lib.hid hh; replace hs := Lib.hid hs
    generalize hln : h.len i = k at *
    replace hln := Lib.hid hln
    go_enter Try.func15, Try.ntmps15
    go_wp2_with fail
    refine (head_of w F _ xs n hr.out hF.out hl).mono ?_
    rintro e w1 ⟨rfl, hb1⟩
    rw [hs.out, hh.out]
    unfold Hd.v
    go_wp2_with fail
    refine (head_length _ h i).mono ?_
    rintro e w2 ⟨rfl, hb2⟩
    rw [hln.out]
    have hb02 : Below w.heap.size w w2 := Below.step (Below.step hb1 ((Below.refl _ w1).alloc (Nat.le_refl _) _)) hb2
    replace hb1 := Lib.hid hb1; replace hb2 := Lib.hid hb2
    have hrow2 := hr.out.below hb02
    have hsl := ((hrow2.take (i * n + k).toNat (by omega)).drop (i * n).toNat (by omega))
    have e9 : (xs.take (i * n + k).toNat).drop (i * n).toNat = (xs.drop (i * n).toNat).take k.toNat := by
      rw [List.drop_take]; congr 1; omega
    rw [e9] at hsl
    replace hrow2 := Lib.hid hrow2; replace hsl := Lib.hid hsl; replace e9 := Lib.hid e9; replace hb02 := Lib.hid hb02
    go_wp2_with fail
    all_goals
      refine (clone_B w2 _ _ ((xs.drop (i * n).toNat).take k.toNat) (by have := hsl.out; first | (rw [if_pos (by assumption), show c - (i * n).toNat = 0 from by omega] at this; exact this) | (rw [if_neg (by assumption)] at this; exact this)) (by simp; omega)).mono ?_
      rintro e w3 ⟨u, rfl, hb3, hown3⟩
      have hb03 := Below.step hb02.out hb3
      obtain ⟨A3, n3, c3, rfl⟩ := hown3.row.shp
      replace hown3 := Lib.hid hown3; replace hb3 := Lib.hid hb3; replace hb03 := Lib.hid hb03
      go_wp2
      go_ret2
      exact ⟨_, rfl, hb03.out, hown3.out.base_ hb02.out.size⟩
end Go.Proofs.Ytbgkohfifcfofaa
