/- Plain laws of layers 3 and 8: what is put is read again; the order of paths. -/
import Derived.Test.YtbgkohfifcfofaaDoorPathP
import Derived.Test.YtbgkohfifcfofaaDoorPathG
import Derived.Test.YtbgkohfifcfofaaDoorPathA
set_option linter.unusedVariables false
set_option linter.unusedSimpArgs false
namespace Go.Proofs.YtbgkohfifcfofaaDoor
open Go.Proofs
theorem numGo_put (k : Nat) : ∀ (i n wt : Nat) (rest : List UInt8), (0 < k ∨ i = 0) → i + (numB k).length ≤ 9 → numGo i n wt (numB k ++ rest) = (n + k * wt, i + (numB k).length, 0) := by
  induction k using Nat.strongRecOn with
  | _ k ih =>
    intro i n wt rest h0 h9
    by_cases h : k < 128
    · rw [numB_small k h] at h9 ⊢
      have hc : (UInt8.ofNat k).toNat = k := by rw [UInt8.toNat_ofNat']; omega
      simp only [List.length_singleton] at h9 ⊢
      rw [show [UInt8.ofNat k] ++ rest = UInt8.ofNat k :: rest from rfl, numGo, if_neg (by omega), hc, if_neg (by omega), if_neg (by omega)]
    · rw [numB_step k h] at h9 ⊢
      have hc : (UInt8.ofNat (128 + k % 128)).toNat = 128 + k % 128 := by rw [UInt8.toNat_ofNat']; omega
      simp only [List.length_cons] at h9 ⊢
      rw [List.cons_append, numGo, if_neg (by omega), hc, if_pos (by omega), ih (k / 128) (by omega) _ _ _ _ (.inl (by omega)) (by omega)]
      have e : k = k % 128 + 128 * (k / 128) := by omega
      have e2 : n + (128 + k % 128 - 128) * wt + k / 128 * (wt * 128) = n + k * wt := by
        rw [show 128 + k % 128 - 128 = k % 128 by omega]
        conv => rhs; rw [e, Nat.add_mul]
        rw [Nat.add_assoc, Nat.mul_comm wt 128, ← Nat.mul_assoc, Nat.mul_comm (k / 128) 128]
      rw [e2]
      congr 2
      omega
theorem TP.number_put (k most : Nat) (rest : List UInt8) (hk : k ≤ most) (hm : k ≤ 4611686018427387903) : TP.number ⟨numB k ++ rest, none⟩ most = (k, ⟨rest, none⟩) := by
  have h9 := numB_len9 k hm
  have hg := numGo_put k 0 0 1 rest (.inr rfl) (by omega)
  unfold TP.number
  simp only [hg]
  rw [if_neg (by simp), if_neg (by omega)]
  simp
theorem okN_in {x : Int} (h : okN x = true) : putN x = numB x.toNat ∧ x.toNat ≤ 1048576 ∧ (x.toNat : Int) = x := by
  simp [okN] at h
  refine ⟨?_, by omega, by omega⟩
  unfold putN
  rw [if_pos (by simp [inN]; omega)]
theorem readN_put (p : List Int) (h : p.all okN = true) (rest : List UInt8) : ∀ k, k ≤ p.length → readN 1048576 k ⟨putL p ++ rest, none⟩ = (p.take k, ⟨putL (p.drop k) ++ rest, none⟩) := by
  intro k
  induction k with
  | zero => intro _; simp [readN]
  | succ k ih =>
    intro hk
    obtain ⟨x, hx⟩ := get_some_of_lt (show k < p.length by omega)
    have hox : okN x = true := List.all_eq_true.1 h x (List.mem_of_getElem? hx)
    obtain ⟨h1, h2, h3⟩ := okN_in hox
    have hd : p.drop k = x :: p.drop (k + 1) := by
      rw [List.drop_eq_getElem_cons (show k < p.length by omega)]
      rw [List.getElem?_eq_getElem (by omega)] at hx
      rw [Option.some.inj hx]
    have hn : TP.number ⟨putL (p.drop k) ++ rest, none⟩ 1048576 = (x.toNat, ⟨putL (p.drop (k + 1)) ++ rest, none⟩) := by
      rw [hd, putL, h1, List.append_assoc]
      exact TP.number_put _ _ _ h2 (by omega)
    simp only [readN, ih (by omega), hn, h3]
    rw [take_snoc_get hx]
theorem pathGet_put (p : List Int) (h : pathRight p = true) (rest : List UInt8) : pathGetT ⟨putB p ++ rest, none⟩ = (p, ⟨rest, none⟩) := by
  simp only [pathRight, Bool.and_eq_true, decide_eq_true_eq] at h
  have h1 : TP.number ⟨putB p ++ rest, none⟩ 6 = (p.length, ⟨putL p ++ rest, none⟩) := by
    unfold putB
    rw [List.append_assoc]
    exact TP.number_put _ _ _ h.1 (by omega)
  unfold pathGetT
  rw [h1]
  simp only []
  rw [readN_put p h.2 rest p.length (Nat.le_refl _)]
  simp [putL]
/-- What is put is read again. -/
theorem get_put (p : List Int) (h : pathRight p = true) : pathGet ⟨putB p, none⟩ = p ∧ pathGetE ⟨putB p, none⟩ = 0 := by
  have := pathGet_put p h []
  rw [List.append_nil] at this
  unfold pathGet pathGetE
  rw [this]
  exact ⟨rfl, rfl⟩
theorem cmpI_neg (a b : Int) : cmpI a b = -cmpI b a := by unfold cmpI; split <;> split <;> omega
theorem cmpI_zero (a b : Int) : cmpI a b = 0 ↔ a = b := by unfold cmpI; split <;> (try split) <;> omega
theorem cmpI_self (a : Int) : cmpI a a = 0 := (cmpI_zero a a).2 rfl
theorem cmpI_lt (a b : Int) : -1 ≤ cmpI a b ∧ cmpI a b ≤ 1 := by unfold cmpI; split <;> (try split) <;> omega
theorem cmpL_neg : ∀ (p q : List Int), cmpL p q = -cmpL q p
  | [], [] => rfl
  | [], _ :: _ => rfl
  | _ :: _, [] => rfl
  | a :: l, b :: m => by
    have h1 := cmpI_neg a b
    have h2 := cmpL_neg l m
    simp only [cmpL]
    by_cases h : cmpI a b = 0
    · rw [if_neg (by simpa using h), if_neg (by omega)]; exact h2
    · rw [if_pos h, if_pos (by omega)]; exact h1
theorem cmpL_zero : ∀ (p q : List Int), cmpL p q = 0 ↔ p = q
  | [], [] => by simp [cmpL]
  | [], _ :: _ => by simp [cmpL]
  | _ :: _, [] => by simp [cmpL]
  | a :: l, b :: m => by
    have h1 := cmpI_zero a b
    have h2 := cmpL_zero l m
    simp only [cmpL, List.cons.injEq]
    by_cases h : cmpI a b = 0
    · rw [if_neg (by simpa using h), h2, ← h1]; simp [h]
    · rw [if_pos h]; constructor
      · intro h'; exact absurd h' h
      · rintro ⟨h', _⟩; exact absurd (h1.2 h') h
theorem cmpL_lt : ∀ (p q : List Int), -1 ≤ cmpL p q ∧ cmpL p q ≤ 1
  | [], [] => by simp [cmpL]
  | [], _ :: _ => by simp [cmpL]
  | _ :: _, [] => by simp [cmpL]
  | a :: l, b :: m => by
    simp only [cmpL]
    split
    · exact cmpI_lt a b
    · exact cmpL_lt l m
theorem cmpL_app : ∀ (p : List Int) (n : Int) (r : List Int), cmpL p (p ++ n :: r) = -1
  | [], _, _ => rfl
  | a :: l, n, r => by
    simp only [List.cons_append, cmpL]
    rw [if_neg (by simp [cmpI_self]), cmpL_app l n r]
theorem below_iff {p q : List Int} : pathBelow p q = true ↔ ∃ n r, p = q ++ n :: r := by
  unfold pathBelow
  simp only [Bool.and_eq_true, decide_eq_true_eq, beq_iff_eq]
  constructor
  · rintro ⟨h1, h2⟩
    cases hd : p.drop q.length with
    | nil => have := congrArg List.length hd; simp at this; omega
    | cons n r =>
      refine ⟨n, r, ?_⟩
      conv => lhs; rw [← List.take_append_drop q.length p]
      rw [h2, hd]
  · rintro ⟨n, r, rfl⟩
    simp
theorem below_cmp {p q : List Int} (h : pathBelow p q = true) : cmpL q p = -1 := by
  obtain ⟨n, r, rfl⟩ := below_iff.1 h
  exact cmpL_app q n r
theorem below_child (p : List Int) (n : Int) : pathBelow (p ++ [n]) p = true := below_iff.2 ⟨n, [], rfl⟩
theorem cmp_child (p : List Int) (n : Int) : cmpL p (p ++ [n]) = -1 := cmpL_app p n []
end Go.Proofs.YtbgkohfifcfofaaDoor
