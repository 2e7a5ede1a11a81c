/- Heads: what is right, how many chunks there are, and how long they are: the program's and the reference's. -/
import Derived.Test.YtbgkohfifcfofaaDigW
import Derived.Test.YtbgkohfifcfofaaClB
import Derived.Test.YtbgkohfifcfofaaRef4W
set_option linter.unusedVariables false
set_option linter.unusedSimpArgs false
set_option maxRecDepth 100000
open Go.RowKit
namespace Go.Proofs.Ytbgkohfifcfofaa
open Go.Proofs

def I64h (n : Int) : Prop := -9223372036854775808 ≤ n ∧ n ≤ 9223372036854775807
structure Hd where
  L : Int
  S : Int
  D : Int
deriving DecidableEq
def Hd.v (h : Hd) : Value := .agg #[.int .i64 h.L, .int .i64 h.S, .int .i64 h.D]
def Hd.ok (h : Hd) : Prop := I64h h.L ∧ I64h h.S ∧ I64h h.D
def Hd.right (h : Hd) : Bool := decide (0 ≤ h.L ∧ h.L ≤ 1073741824 ∧ 1 ≤ h.S ∧ h.S ≤ 512 ∧ 0 ≤ h.D ∧ h.D ≤ 4611686018427387903)
theorem Hd.right_iff (h : Hd) : h.right = true ↔ 0 ≤ h.L ∧ h.L ≤ 1073741824 ∧ 1 ≤ h.S ∧ h.S ≤ 512 ∧ 0 ≤ h.D ∧ h.D ≤ 4611686018427387903 := by simp [Hd.right]
def sizeB (n : Int) : Bool := decide (1 ≤ n ∧ n ≤ 512)
theorem size_ok (w : World) (n : Int) : Calls Try.prog 36 #[.int .i64 n] w fun e w' => e = .returned (.bool (sizeB n)) ∧ w = w' := by
  by_cases h1 : 1 ≤ n
  · by_cases h2 : n ≤ 512
    all_goals
      go_enter Try.func36, Try.ntmps36
      go_wp2
      go_ret
      simp [sizeB]
      omega
  · go_enter Try.func36, Try.ntmps36
    go_wp2
    go_ret
    simp [sizeB]
    omega
theorem ret_bool {a b : Bool} (h : a = b) : Ending.returned (.bool a) = .returned (.bool b) := by rw [h]
theorem ret_i64 {a b : Int} (h : a = b) : Ending.returned (.int .i64 a) = .returned (.int .i64 b) := by rw [h]
set_option maxHeartbeats 1000000 in
theorem head_right (w : World) (h : Hd) : Calls Try.prog 27 #[h.v] w (RetB (.bool h.right) w) := by
  obtain ⟨L, S, D⟩ := h
  unfold Hd.v
  simp only
  by_cases h1 : 0 ≤ L
  · by_cases h2 : L ≤ 1073741824
    · by_cases hs : 1 ≤ S ∧ S ≤ 512
      · have hs' : sizeB S = true := decide_eq_true hs
        by_cases h3 : 0 ≤ D
        all_goals
          go_enter Try.func27, Try.ntmps27
          go_wp2_with fail
          refine (size_ok _ _).mono ?_
          rintro e w' ⟨rfl, rfl⟩
          go_wp2
          go_ret
          exact ⟨ret_bool (by rw [Bool.eq_iff_iff]; simp [Hd.right]; omega), (Below.refl _ w).alloc (Nat.le_refl _) _⟩
      · have hs' : sizeB S = false := decide_eq_false hs
        go_enter Try.func27, Try.ntmps27
        go_wp2_with fail
        refine (size_ok _ _).mono ?_
        rintro e w' ⟨rfl, rfl⟩
        go_wp2
        go_ret
        exact ⟨ret_bool (by rw [Bool.eq_iff_iff]; simp [Hd.right]; omega), (Below.refl _ w).alloc (Nat.le_refl _) _⟩
    · go_enter Try.func27, Try.ntmps27
      go_wp2
      go_ret
      exact ⟨ret_bool (by rw [Bool.eq_iff_iff]; simp [Hd.right]; omega), (Below.refl _ w).alloc (Nat.le_refl _) _⟩
  · go_enter Try.func27, Try.ntmps27
    go_wp2
    go_ret
    exact ⟨ret_bool (by rw [Bool.eq_iff_iff]; simp [Hd.right]; omega), (Below.refl _ w).alloc (Nat.le_refl _) _⟩
set_option maxHeartbeats 1000000 in
theorem ref_right (w : World) (h : Hd) : Calls Try.prog 10 #[h.v] w (RetB (.bool h.right) w) := by
  obtain ⟨L, S, D⟩ := h
  unfold Hd.v
  simp only
  by_cases h1 : 0 ≤ L
  · by_cases h2 : L ≤ 1073741824
    · by_cases h3 : 1 ≤ S
      · by_cases h4 : S ≤ 512
        · by_cases h5 : 0 ≤ D
          all_goals
            go_enter Try.func10, Try.ntmps10
            go_wp2
            go_ret
            exact ⟨ret_bool (by rw [Bool.eq_iff_iff]; simp [Hd.right]; omega), (Below.refl _ w).alloc (Nat.le_refl _) _⟩
        · go_enter Try.func10, Try.ntmps10
          go_wp2
          go_ret
          exact ⟨ret_bool (by rw [Bool.eq_iff_iff]; simp [Hd.right]; omega), (Below.refl _ w).alloc (Nat.le_refl _) _⟩
      · go_enter Try.func10, Try.ntmps10
        go_wp2
        go_ret
        exact ⟨ret_bool (by rw [Bool.eq_iff_iff]; simp [Hd.right]; omega), (Below.refl _ w).alloc (Nat.le_refl _) _⟩
    · go_enter Try.func10, Try.ntmps10
      go_wp2
      go_ret
      exact ⟨ret_bool (by rw [Bool.eq_iff_iff]; simp [Hd.right]; omega), (Below.refl _ w).alloc (Nat.le_refl _) _⟩
  · go_enter Try.func10, Try.ntmps10
    go_wp2
    go_ret
    exact ⟨ret_bool (by rw [Bool.eq_iff_iff]; simp [Hd.right]; omega), (Below.refl _ w).alloc (Nat.le_refl _) _⟩
/-- how many chunks -/
def Hd.cnt (h : Hd) : Nat := if h.right then ((h.L + h.S - 1) / h.S).toNat else 0
/-- how long is one; -1: there is none -/
def Hd.len (h : Hd) (i : Int) : Int := if i < 0 ∨ (h.cnt : Int) ≤ i then -1 else min h.S (h.L - i * h.S)
theorem head_count (w : World) (h : Hd) : Calls Try.prog 26 #[h.v] w (RetB (.int .i64 h.cnt) w) := by
  obtain ⟨L, S, D⟩ := h
  cases hr : Hd.right ⟨L, S, D⟩ with
  | true =>
    obtain ⟨h1, h2, h3, h4, h5, h6⟩ := (Hd.right_iff _).1 hr
    simp only at h1 h2 h3 h4 h5 h6
    have hq : Hid ((Hd.cnt ⟨L, S, D⟩ : Int) = (L + S - 1) / S) := Lib.hid (by
      unfold Hd.cnt
      rw [if_pos hr]
      have := Int.ediv_nonneg (a := L + S - 1) (b := S) (by omega) (by omega)
      simp only
      omega)
    unfold Hd.v
    simp only
    go_enter Try.func26, Try.ntmps26
    go_wp2_with fail
    refine (head_right _ ⟨L, S, D⟩).mono ?_
    rintro e w' ⟨rfl, hb⟩
    have hc0 := hb.cell (p := ⟨w.heap.size, 0, none⟩) (by simp)
    have hc1 := hb.cell (p := ⟨w.heap.size, 1, none⟩) (by simp)
    simp at hc0 hc1
    go_wp2
    go_ret
    exact ⟨ret_i64 hq.out.symm, Below.step ((Below.refl _ w).alloc (Nat.le_refl _) _) hb⟩
  | false =>
    have hq : Hid (Hd.cnt ⟨L, S, D⟩ = 0) := Lib.hid (if_neg (by simp [hr]))
    unfold Hd.v
    simp only
    go_enter Try.func26, Try.ntmps26
    go_wp2_with fail
    refine (head_right _ ⟨L, S, D⟩).mono ?_
    rintro e w' ⟨rfl, hb⟩
    go_wp2
    go_ret
    exact ⟨ret_i64 (by rw [hq.out]; rfl), Below.step ((Below.refl _ w).alloc (Nat.le_refl _) _) hb⟩
theorem div_is {a q S : Int} (hS : 0 < S) (h1 : q * S ≤ a) (h2 : a < (q + 1) * S) : a / S = q := by
  apply Int.le_antisymm
  · have := Int.ediv_lt_of_lt_mul hS h2
    omega
  · exact (Int.le_ediv_iff_mul_le hS).2 h1
theorem Hd.cnt_eq {h : Hd} (hr : h.right = true) : (h.cnt : Int) = (h.L + h.S - 1) / h.S := by
  obtain ⟨h1, h2, h3, h4, h5, h6⟩ := (Hd.right_iff _).1 hr
  unfold Hd.cnt
  rw [if_pos hr]
  have := Int.ediv_nonneg (a := h.L + h.S - 1) (b := h.S) (by omega) (by omega)
  omega
theorem Hd.cnt_no {h : Hd} (hr : h.right = false) : h.cnt = 0 := if_neg (by simp [hr])
theorem ref_div {h : Hd} (hr : h.right = true) : 0 ≤ h.L / h.S ∧ 0 ≤ h.L / h.S * h.S ∧ h.L / h.S * h.S ≤ h.L ∧ h.L / h.S ≤ h.L ∧ (h.cnt : Int) = if h.L / h.S * h.S < h.L then h.L / h.S + 1 else h.L / h.S := by
  obtain ⟨h1, h2, h3, h4, h5, h6⟩ := (Hd.right_iff _).1 hr
  rw [Hd.cnt_eq hr]
  have a0 := Int.ediv_nonneg (a := h.L) (b := h.S) (by omega) (by omega)
  have a1 := Int.ediv_mul_le h.L (b := h.S) (by omega)
  have a2 := Int.lt_ediv_add_one_mul_self h.L (b := h.S) (by omega)
  have a3 := Int.mul_nonneg a0 (show (0 : Int) ≤ h.S by omega)
  have a4 := Int.ediv_le_self h.S h1
  generalize h.L / h.S = q at *
  refine ⟨a0, a3, a1, a4, ?_⟩
  have e1 : (q + 1) * h.S = q * h.S + h.S := by rw [Int.add_mul, Int.one_mul]
  have e2 : (q + 1 + 1) * h.S = q * h.S + h.S + h.S := by rw [Int.add_mul, Int.one_mul, e1]
  split
  · exact div_is (by omega) (by omega) (by omega)
  · exact div_is (by omega) (by omega) (by omega)
/-- the chunks fill the bytes -/
theorem Hd.cnt_mul {h : Hd} (hr : h.right = true) : h.L ≤ h.cnt * h.S ∧ (0 < h.cnt → ((h.cnt : Int) - 1) * h.S < h.L) ∧ (h.cnt : Int) ≤ h.L := by
  obtain ⟨h1, h2, h3, h4, h5, h6⟩ := (Hd.right_iff _).1 hr
  obtain ⟨a0, a1, a2, a3, a4⟩ := ref_div hr
  have a5 := Int.lt_ediv_add_one_mul_self h.L (b := h.S) (by omega)
  generalize h.L / h.S = q at *
  have e1 : (q + 1) * h.S = q * h.S + h.S := by rw [Int.add_mul, Int.one_mul]
  have e0 : (q - 1) * h.S = q * h.S - h.S := by rw [Int.sub_mul, Int.one_mul]
  have e2 : q ≤ q * h.S := by
    have := Int.mul_le_mul_of_nonneg_left h3 a0
    omega
  split at a4
  · rw [a4]
    exact ⟨by omega, fun _ => by rw [show q + 1 - 1 = q from by omega]; omega, by omega⟩
  · rw [a4]
    exact ⟨by omega, fun h => by omega, by omega⟩
/-- the length of a chunk that there is -/
theorem Hd.len_alt {h : Hd} (hr : h.right = true) (i : Int) (h0 : 0 ≤ i) (hi : i < h.cnt) :
    0 ≤ i * h.S ∧ i * h.S ≤ h.L ∧ 1 ≤ h.L - i * h.S ∧ h.len i = min h.S (h.L - i * h.S) ∧ h.len i = if i < (h.cnt : Int) - 1 then h.S else h.L - ((h.cnt : Int) - 1) * h.S := by
  obtain ⟨h1, h2, h3, h4, h5, h6⟩ := (Hd.right_iff _).1 hr
  obtain ⟨a1, a2, a3⟩ := Hd.cnt_mul hr
  have a2 := a2 (by omega)
  have b0 := Int.mul_nonneg h0 (show (0 : Int) ≤ h.S by omega)
  have hl : h.len i = min h.S (h.L - i * h.S) := by unfold Hd.len; rw [if_neg (by omega)]
  have b1 : i * h.S ≤ ((h.cnt : Int) - 1) * h.S := Int.mul_le_mul_of_nonneg_right (by omega) (by omega)
  refine ⟨b0, by omega, by omega, hl, ?_⟩
  rw [hl]
  have e1 : (i + 1) * h.S = i * h.S + h.S := by rw [Int.add_mul, Int.one_mul]
  have e2 : ((h.cnt : Int) - 1) * h.S = h.cnt * h.S - h.S := by rw [Int.sub_mul, Int.one_mul]
  split
  · rename_i hlt
    have b2 : (i + 1) * h.S ≤ ((h.cnt : Int) - 1) * h.S := Int.mul_le_mul_of_nonneg_right (by omega) (by omega)
    omega
  · obtain rfl : i = (h.cnt : Int) - 1 := by omega
    omega
theorem Hd.len_no {h : Hd} (i : Int) (hi : i < 0 ∨ (h.cnt : Int) ≤ i) : h.len i = -1 := by unfold Hd.len; rw [if_pos hi]
set_option maxHeartbeats 1000000 in
theorem ref_count (w : World) (h : Hd) : Calls Try.prog 30 #[h.v] w (RetB (.int .i64 h.cnt) w) := by
  cases hr : h.right with
  | true =>
    obtain ⟨a0, a1, a2, a3, a4⟩ := ref_div hr
    obtain ⟨h1, h2, h3, h4, h5, h6⟩ := (Hd.right_iff _).1 hr
    obtain ⟨L, S, D⟩ := h
    unfold Hd.v
    simp only at *
    by_cases hlt : L / S * S < L
    · rw [if_pos hlt] at a4
      replace a4 := Lib.hid a4
      go_enter Try.func30, Try.ntmps30
      go_wp2_with fail
      refine (ref_right _ ⟨L, S, D⟩).mono ?_
      rintro e w' ⟨rfl, hb⟩
      have hc0 := hb.cell (p := ⟨w.heap.size, 0, none⟩) (by simp)
      have hc1 := hb.cell (p := ⟨w.heap.size, 1, none⟩) (by simp)
      simp at hc0 hc1
      go_wp2
      go_ret
      exact ⟨ret_i64 a4.out.symm, Below.step ((Below.refl _ w).alloc (Nat.le_refl _) _) hb⟩
    · rw [if_neg hlt] at a4
      replace a4 := Lib.hid a4
      go_enter Try.func30, Try.ntmps30
      go_wp2_with fail
      refine (ref_right _ ⟨L, S, D⟩).mono ?_
      rintro e w' ⟨rfl, hb⟩
      have hc0 := hb.cell (p := ⟨w.heap.size, 0, none⟩) (by simp)
      have hc1 := hb.cell (p := ⟨w.heap.size, 1, none⟩) (by simp)
      simp at hc0 hc1
      go_wp2
      go_ret
      exact ⟨ret_i64 a4.out.symm, Below.step ((Below.refl _ w).alloc (Nat.le_refl _) _) hb⟩
  | false =>
    have hq := Lib.hid (Hd.cnt_no hr)
    obtain ⟨L, S, D⟩ := h
    unfold Hd.v
    simp only
    go_enter Try.func30, Try.ntmps30
    go_wp2_with fail
    refine (ref_right _ ⟨L, S, D⟩).mono ?_
    rintro e w' ⟨rfl, hb⟩
    go_wp2
    go_ret
    exact ⟨ret_i64 (by rw [hq.out]; rfl), Below.step ((Below.refl _ w).alloc (Nat.le_refl _) _) hb⟩
set_option maxHeartbeats 1000000 in
theorem head_length (w : World) (h : Hd) (i : Int) : Calls Try.prog 28 #[h.v, .int .i64 i] w (RetB (.int .i64 (h.len i)) w) := by
  by_cases h0 : i < 0
  · have hq := Lib.hid (Hd.len_no (h := h) i (.inl h0))
    obtain ⟨L, S, D⟩ := h
    unfold Hd.v
    simp only
    go_enter Try.func28, Try.ntmps28
    go_wp2
    go_ret
    exact ⟨ret_i64 hq.out.symm, (Below.refl _ w).alloc (Nat.le_refl _) _⟩
  · by_cases hi : (h.cnt : Int) ≤ i
    · have hq := Lib.hid (Hd.len_no (h := h) i (.inr hi))
      obtain ⟨L, S, D⟩ := h
      unfold Hd.v
      simp only
      go_enter Try.func28, Try.ntmps28
      go_wp2_with fail
      refine (head_count _ ⟨L, S, D⟩).mono ?_
      rintro e w' ⟨rfl, hb⟩
      go_wp2
      go_ret
      exact ⟨ret_i64 hq.out.symm, Below.step ((Below.refl _ w).alloc (Nat.le_refl _) _) hb⟩
    · cases hr : h.right with
      | false => have := Hd.cnt_no hr; omega
      | true =>
        obtain ⟨a0, a1, a2, a3, a4⟩ := Hd.len_alt hr i (by omega) (by omega)
        clear a4
        obtain ⟨h1, h2, h3, h4, h5, h6⟩ := (Hd.right_iff _).1 hr
        replace a3 := Lib.hid a3
        obtain ⟨L, S, D⟩ := h
        unfold Hd.v
        simp only at *
        go_enter Try.func28, Try.ntmps28
        go_wp2_with fail
        refine (head_count _ ⟨L, S, D⟩).mono ?_
        rintro e w' ⟨rfl, hb⟩
        have hc0 := hb.cell (p := ⟨w.heap.size, 0, none⟩) (by simp)
        have hc1 := hb.cell (p := ⟨w.heap.size, 1, none⟩) (by simp)
        simp at hc0 hc1
        go_wp2
        all_goals
          go_ret
          exact ⟨ret_i64 (by rw [a3.out]; omega), Below.step ((Below.refl _ w).alloc (Nat.le_refl _) _) hb⟩
set_option maxHeartbeats 1000000 in
theorem ref_length (w : World) (h : Hd) (i : Int) (hi64 : I64h i) : Calls Try.prog 31 #[h.v, .int .i64 i] w (RetB (.int .i64 (h.len i)) w) := by
  unfold I64h at hi64
  by_cases h0 : i < 0
  · have hq := Lib.hid (Hd.len_no (h := h) i (.inl h0))
    obtain ⟨L, S, D⟩ := h
    unfold Hd.v
    simp only
    go_enter Try.func31, Try.ntmps31
    go_wp2_with fail
    refine (ref_count _ ⟨L, S, D⟩).mono ?_
    rintro e w' ⟨rfl, hb⟩
    go_wp2
    go_ret
    exact ⟨ret_i64 hq.out.symm, Below.step ((Below.refl _ w).alloc (Nat.le_refl _) _) hb⟩
  · by_cases hi : (h.cnt : Int) ≤ i
    · have hq := Lib.hid (Hd.len_no (h := h) i (.inr hi))
      obtain ⟨L, S, D⟩ := h
      unfold Hd.v
      simp only
      go_enter Try.func31, Try.ntmps31
      go_wp2_with fail
      refine (ref_count _ ⟨L, S, D⟩).mono ?_
      rintro e w' ⟨rfl, hb⟩
      go_wp2
      go_ret
      exact ⟨ret_i64 hq.out.symm, Below.step ((Below.refl _ w).alloc (Nat.le_refl _) _) hb⟩
    · cases hr : h.right with
      | false => have := Hd.cnt_no hr; omega
      | true =>
        obtain ⟨a0, a1, a2, a3, a4⟩ := Hd.len_alt hr i (by omega) (by omega)
        obtain ⟨b1, b2, b3⟩ := Hd.cnt_mul hr
        have b2 := b2 (by omega)
        obtain ⟨h1, h2, h3, h4, h5, h6⟩ := (Hd.right_iff _).1 hr
        have b0 : 0 ≤ ((h.cnt : Int) - 1) * h.S := Int.mul_nonneg (by omega) (by omega)
        clear a3
        replace a4 := Lib.hid a4
        obtain ⟨L, S, D⟩ := h
        unfold Hd.v
        simp only at *
        generalize hn : Hd.cnt ⟨L, S, D⟩ = n at *
        replace hn := Lib.hid hn
        by_cases hlt : i < (n : Int) - 1
        all_goals
          go_enter Try.func31, Try.ntmps31
          go_wp2_with fail
          refine (ref_count _ ⟨L, S, D⟩).mono ?_
          rintro e w' ⟨rfl, hb⟩
          rw [hn.out]
          have hc0 := hb.cell (p := ⟨w.heap.size, 0, none⟩) (by simp)
          have hc1 := hb.cell (p := ⟨w.heap.size, 1, none⟩) (by simp)
          simp at hc0 hc1
          go_wp2
          go_ret
          exact ⟨ret_i64 (by rw [a4.out]; first | rw [if_pos (by omega)] | rw [if_neg (by omega)]), Below.step ((Below.refl _ w).alloc (Nat.le_refl _) _) hb⟩
end Go.Proofs.Ytbgkohfifcfofaa
