/- Layer 3 (tape) in plain Lean: numbers and texts as bytes. No program in sight. -/
import Derived.WalkKit
set_option linter.unusedVariables false
set_option linter.unusedSimpArgs false
namespace Go.Proofs.YtbgkohfifcfofaaDoor

/-- A number as bytes. -/
def numB (n : Nat) : List UInt8 := if h : n < 128 then [UInt8.ofNat n] else UInt8.ofNat (128 + n % 128) :: numB (n / 128)
termination_by n
decreasing_by omega
theorem numB_small (n : Nat) (h : n < 128) : numB n = [UInt8.ofNat n] := by rw [numB, dif_pos h]
theorem numB_step (n : Nat) (h : ¬ n < 128) : numB n = UInt8.ofNat (128 + n % 128) :: numB (n / 128) := by rw [numB, dif_neg h]
def textB (l : List UInt8) : List UInt8 := numB l.length ++ l

/-- The number ahead: its value, how many bytes it has, the error's number. -/
def numGo (i n wt : Nat) : List UInt8 → Nat × Nat × Nat
  | [] => (0, 0, 11)
  | c :: r => if i = 9 then (0, 0, 10) else if 128 ≤ c.toNat then numGo (i + 1) (n + (c.toNat - 128) * wt) (wt * 128) r
    else if c.toNat = 0 ∧ 0 < i then (0, 0, 10) else (n + c.toNat * wt, i + 1, 0)
/-- What is left of a tape, and the first fault's number. -/
structure TP where
  l : List UInt8
  er : Option Nat
def TP.number (t : TP) (most : Nat) : Nat × TP :=
  match t.er with
  | some _ => (0, t)
  | none => if (numGo 0 0 1 t.l).2.2 ≠ 0 then (0, ⟨t.l, some (numGo 0 0 1 t.l).2.2⟩)
    else if most < (numGo 0 0 1 t.l).1 then (0, ⟨t.l, some 13⟩)
    else ((numGo 0 0 1 t.l).1, ⟨t.l.drop (numGo 0 0 1 t.l).2.1, none⟩)
def TP.text (t : TP) (most : Nat) : List UInt8 × TP :=
  match t.er with
  | some _ => ([], t)
  | none => if (t.number most).2.er.isSome then ([], (t.number most).2)
    else if (t.number most).2.l.length < (t.number most).1 then ([], ⟨t.l, some 11⟩)
    else ((t.number most).2.l.take (t.number most).1, ⟨(t.number most).2.l.drop (t.number most).1, none⟩)
/-- The error at a tape's end. -/
def TP.fin (t : TP) : Option Nat :=
  match t.er with
  | some e => some e
  | none => if t.l = [] then none else some 10
theorem numGo_err (l : List UInt8) : ∀ i n wt, (numGo i n wt l).2.2 ≤ 11 := by
  induction l with
  | nil => intro i n wt; simp [numGo]
  | cons c r ih =>
    intro i n wt
    simp only [numGo]
    split
    · decide
    · split
      · exact ih _ _ _
      · split
        · decide
        · simp
theorem numGo_len (l : List UInt8) : ∀ i n wt, (numGo i n wt l).2.2 = 0 → (numGo i n wt l).2.1 ≤ i + l.length ∧ i < (numGo i n wt l).2.1 := by
  induction l with
  | nil => intro i n wt h; simp [numGo] at h
  | cons c r ih =>
    intro i n wt
    simp only [numGo]
    split
    · intro h; simp at h
    · split
      · intro h
        have := ih _ _ _ h
        simp only [List.length_cons]
        omega
      · split
        · intro h; simp at h
        · intro _; simp only [List.length_cons]; omega
theorem pow128 (k : Nat) (h : k ≤ 8) : 128 ^ k ≤ 72057594037927936 := by
  have : (128 : Nat) ^ k ≤ 128 ^ 8 := Nat.pow_le_pow_right (by omega) h
  exact Nat.le_trans this (by decide)
theorem numGo_lt (l : List UInt8) : ∀ i n, i ≤ 9 → n < 128 ^ i → (numGo i n (128 ^ i) l).1 < 9223372036854775808 := by
  induction l with
  | nil => intro i n _ _; simp [numGo]
  | cons c r ih =>
    intro i n hi hn
    have hc := c.toNat_lt
    have hpos : 0 < 128 ^ i := Nat.pow_pos (by omega)
    simp only [numGo]
    split
    · decide
    · rename_i h9
      have hp := pow128 i (by omega)
      split
      · rw [← Nat.pow_succ]
        refine ih _ _ (by omega) ?_
        rw [Nat.pow_succ]
        have : (c.toNat - 128) * 128 ^ i ≤ 127 * 128 ^ i := Nat.mul_le_mul_right _ (by omega)
        omega
      · split
        · decide
        · rename_i hc2 _
          have : c.toNat * 128 ^ i ≤ 127 * 128 ^ i := Nat.mul_le_mul_right _ (by omega)
          simp only
          omega
theorem TP.number_le (t : TP) (most : Nat) : (t.number most).1 ≤ most := by
  unfold TP.number
  split
  · exact Nat.zero_le _
  · split
    · exact Nat.zero_le _
    · split
      · exact Nat.zero_le _
      · simp only; omega
theorem TP.number_keep (t : TP) (most : Nat) (h : (t.number most).2.er.isSome) : (t.number most).2.l = t.l := by
  unfold TP.number at *
  split
  · rfl
  · rename_i h0
    rw [h0] at h
    simp only at h
    split
    · rfl
    · rename_i h1
      rw [if_neg h1] at h
      split
      · rfl
      · rename_i h2
        rw [if_neg h2] at h
        simp at h
theorem numB_len (j : Nat) : ∀ n, n < 128 ^ (j + 1) → (numB n).length ≤ j + 1 := by
  induction j with
  | zero => intro n h; rw [numB_small n (by simpa using h)]; simp
  | succ j ih =>
    intro n h
    by_cases h1 : n < 128
    · rw [numB_small n h1]; simp
    · rw [numB_step n h1]
      have := ih (n / 128) (by rw [Nat.div_lt_iff_lt_mul (by omega)]; rw [Nat.pow_succ] at h; exact h)
      simp only [List.length_cons]
      omega
theorem numB_len9 (n : Nat) (h : n ≤ 4611686018427387903) : (numB n).length ≤ 9 := by
  have e : (128 : Nat) ^ (8 + 1) = 9223372036854775808 := by decide
  exact numB_len 8 n (by omega)
end Go.Proofs.YtbgkohfifcfofaaDoor
