/- The reference's way to read a number comes to the same: plain lists. -/
import Derived.Test.YtbgkohfifcfofaaDoorTapeP
set_option linter.unusedVariables false
set_option linter.unusedSimpArgs false
namespace Go.Proofs.YtbgkohfifcfofaaDoor
/-- Base 128, the least digit first. -/
def horn : List UInt8 → Nat
  | [] => 0
  | c :: r => c.toNat % 128 + 128 * horn r
theorem horn_lt (l : List UInt8) : horn l < 128 ^ l.length := by
  induction l with
  | nil => simp [horn]
  | cons c r ih => simp only [horn, List.length_cons, Nat.pow_succ]; omega
/-- How many bytes ahead go on. -/
def runL : List UInt8 → Nat
  | [] => 0
  | c :: r => if 128 ≤ c.toNat then runL r + 1 else 0
theorem runL_le (l : List UInt8) : runL l ≤ l.length := by
  induction l with
  | nil => simp [runL]
  | cons c r ih => simp only [runL]; split <;> simp <;> omega
theorem runL_of {l : List UInt8} {k : Nat} (h : ∀ i x, i < k → l[i]? = some x → 128 ≤ x.toNat) (hk : k ≤ l.length) (hx : k = l.length ∨ ∃ x, l[k]? = some x ∧ x.toNat < 128) : runL l = k := by
  induction l generalizing k with
  | nil => simp at hk; subst hk; rfl
  | cons c r ih =>
    cases k with
    | zero =>
      rcases hx with hx | ⟨x, hx, h128⟩
      · simp at hx
      · simp at hx; subst hx; simp only [runL]; rw [if_neg (by omega)]
    | succ k =>
      have hc := h 0 c (by omega) rfl
      simp only [runL]
      rw [if_pos hc, ih (k := k) (fun i x hi hx => h (i + 1) x (by omega) (by simpa using hx)) (by simpa using hk) (by simpa using hx)]
theorem numGo_run (l : List UInt8) : ∀ i n wt, i ≤ 9 →
    (9 ≤ i + runL l → 9 < i + l.length → numGo i n wt l = (0, 0, 10)) ∧
    (i + runL l ≤ 9 → runL l = l.length → numGo i n wt l = (0, 0, 11)) ∧
    (∀ c, i + runL l ≤ 8 → l[runL l]? = some c → numGo i n wt l = if c.toNat = 0 ∧ 0 < i + runL l then (0, 0, 10) else (n + wt * horn (l.take (runL l + 1)), i + runL l + 1, 0)) := by
  induction l with
  | nil =>
    intro i n wt hi
    simp [runL, numGo]
    omega
  | cons c r ih =>
    intro i n wt hi
    have hc := c.toNat_lt
    by_cases h128 : 128 ≤ c.toNat
    · have hr : runL (c :: r) = runL r + 1 := by simp only [runL]; rw [if_pos h128]
      by_cases h9 : i = 9
      · subst h9
        have hg : numGo 9 n wt (c :: r) = (0, 0, 10) := by simp [numGo]
        rw [hr, hg]
        exact ⟨fun _ _ => rfl, fun h => by omega, fun c' h' => by omega⟩
      · have hg : numGo i n wt (c :: r) = numGo (i + 1) (n + (c.toNat - 128) * wt) (wt * 128) r := by simp only [numGo]; rw [if_neg h9, if_pos h128]
        obtain ⟨h2, h4, h5⟩ := ih (i + 1) (n + (c.toNat - 128) * wt) (wt * 128) (by omega)
        rw [hr, hg]
        simp only [List.length_cons]
        refine ⟨fun a b => h2 (by omega) (by omega), fun a b => h4 (by omega) (by omega), fun c' h' hx => ?_⟩
        have := h5 c' (by omega) (by simpa using hx)
        rw [this]
        rw [show i + 1 + runL r = i + (runL r + 1) from by omega]
        split
        · rfl
        · simp only [List.take_succ_cons, horn, Nat.mul_add]
          have e : c.toNat % 128 = c.toNat - 128 := by omega
          rw [e, Nat.mul_comm wt (c.toNat - 128), ← Nat.mul_assoc, Nat.add_assoc]
    · have hr : runL (c :: r) = 0 := by simp only [runL]; rw [if_neg h128]
      rw [hr]
      simp only [List.length_cons]
      refine ⟨fun a b => ?_, by omega, fun c' h' hx => ?_⟩
      · have : i = 9 := by omega
        simp [numGo, this]
      · simp at hx
        subst hx
        simp only [numGo]
        rw [if_neg (by omega), if_neg h128]
        simp only [Nat.add_zero, List.take_succ_cons, List.take_zero, horn, Nat.mul_zero]
        rw [Nat.mod_eq_of_lt (by omega), Nat.mul_comm wt]
/-- The three ways that the reference tells apart. -/
theorem numGo_end (l : List UInt8) (h : runL l = l.length) (h9 : l.length ≤ 9) : numGo 0 0 1 l = (0, 0, 11) := (numGo_run l 0 0 1 (by omega)).2.1 (by omega) h
theorem numGo_long (l : List UInt8) (h : 9 ≤ runL l) (h9 : 9 < l.length) : numGo 0 0 1 l = (0, 0, 10) := (numGo_run l 0 0 1 (by omega)).1 (by omega) (by omega)
theorem numGo_zero (l : List UInt8) (c : UInt8) (h : runL l ≤ 8) (hc : l[runL l]? = some c) (h0 : c.toNat = 0) (hp : 0 < runL l) : numGo 0 0 1 l = (0, 0, 10) := by
  rw [(numGo_run l 0 0 1 (by omega)).2.2 c (by omega) hc, if_pos ⟨h0, by omega⟩]
theorem numGo_val (l : List UInt8) (c : UInt8) (h : runL l ≤ 8) (hc : l[runL l]? = some c) (h0 : ¬ (c.toNat = 0 ∧ 0 < runL l)) : numGo 0 0 1 l = (horn (l.take (runL l + 1)), runL l + 1, 0) := by
  rw [(numGo_run l 0 0 1 (by omega)).2.2 c (by omega) hc, if_neg (by rw [Nat.zero_add]; exact h0)]
  simp
theorem runL_ge {l : List UInt8} {k : Nat} (h : ∀ i x, i < k → l[i]? = some x → 128 ≤ x.toNat) (hk : k ≤ l.length) : k ≤ runL l := by
  induction l generalizing k with
  | nil => simp at hk; omega
  | cons c r ih =>
    cases k with
    | zero => omega
    | succ k =>
      have hc := h 0 c (by omega) rfl
      simp only [runL]
      rw [if_pos hc]
      have := ih (k := k) (fun i x hi hx => h (i + 1) x (by omega) (by simpa using hx)) (by simpa using hk)
      omega
theorem horn_drop (l : List UInt8) (j : Nat) (x : UInt8) (h : l[j]? = some x) : horn (l.drop j) = x.toNat % 128 + 128 * horn (l.drop (j + 1)) := by
  have hj : j < l.length := (List.getElem?_eq_some_iff.1 h).1
  have e : l.drop j = x :: l.drop (j + 1) := by
    rw [List.drop_eq_getElem_cons hj]; congr 1; rw [List.getElem?_eq_getElem hj] at h; exact Option.some.inj h
  rw [e]; rfl
theorem horn_small (l : List UInt8) (h : l.length ≤ 8) : horn l ≤ 72057594037927935 := by
  have h1 := horn_lt l
  have h2 := pow128 l.length h
  omega
theorem horn_nine (l : List UInt8) (h : l.length ≤ 9) : horn l < 9223372036854775808 := by
  have h1 := horn_lt l
  have h2 : (128 : Nat) ^ l.length ≤ 128 ^ 9 := Nat.pow_le_pow_right (by omega) h
  have h3 : (128 : Nat) ^ 9 = 9223372036854775808 := by decide
  omega
end Go.Proofs.YtbgkohfifcfofaaDoor
