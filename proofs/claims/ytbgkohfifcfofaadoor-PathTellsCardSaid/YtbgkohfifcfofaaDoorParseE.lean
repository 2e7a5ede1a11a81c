/- The plain law: the two Parses answer alike; a path's text is read back. -/
import Derived.Test.YtbgkohfifcfofaaDoorAtoiW
set_option linter.unusedVariables false
set_option linter.unusedSimpArgs false
namespace Go.Proofs.YtbgkohfifcfofaaDoor
open Go.Proofs
theorem dig_nat {k : Nat} (h : k < 10) : (UInt8.ofNat (48 + k)).toNat = 48 + k := by
  rw [UInt8.toNat_ofNat']
  omega
theorem dec_dig : ∀ (u : Nat), ∀ c ∈ Lib.decDigits u, 48 ≤ c.toNat ∧ c.toNat ≤ 57 := by
  intro u
  induction u using Nat.strongRecOn with
  | _ u ih =>
    intro c hc
    by_cases h : u < 10
    · rw [dec_one h] at hc
      simp at hc
      subst hc
      rw [show (48 : UInt8) + UInt8.ofNat u = UInt8.ofNat (48 + u) by simp, dig_nat h]
      omega
    · rw [dec_step h] at hc
      rcases List.mem_append.1 hc with hc | hc
      · exact ih (u / 10) (by omega) c hc
      · rw [List.mem_singleton] at hc
        subst hc
        rw [dig_nat (by omega)]
        omega
theorem dec_ne : ∀ (u : Nat), Lib.decDigits u ≠ [] := by
  intro u h
  by_cases h10 : u < 10
  · rw [dec_one h10] at h; simp at h
  · rw [dec_step h10] at h; simp at h
theorem dec_len (u k : Nat) (hk : 1 ≤ k) (h : u < 10 ^ k) : (Lib.decDigits u).length ≤ k := by
  induction k generalizing u with
  | zero => omega
  | succ k ih =>
    by_cases h10 : u < 10
    · rw [dec_one h10]; simp
    · rw [dec_step h10, List.length_append]
      rw [Nat.pow_succ] at h
      have hk1 : 1 ≤ k := by
        rcases Nat.eq_zero_or_pos k with rfl | hp
        · simp at h; omega
        · exact hp
      have := ih (u / 10) hk1 (by omega)
      simp
      omega
theorem rp_digit (c : UInt8) (rest : List UInt8) (ps : List Int) (a d k : Nat) (hk : k < 10) (hc : c = UInt8.ofNat (48 + k)) (hd : d + 1 ≤ 7) : rp (c :: rest) ps a d = rp rest ps (10 * a + k) (d + 1) := by
  subst hc
  have h := dig_nat hk
  have h46 : UInt8.ofNat (48 + k) ≠ 46 := by
    intro e
    rw [e] at h
    have : (46 : UInt8).toNat = 46 := rfl
    omega
  rw [rp, if_neg h46, if_neg (by omega), h]
  congr 1
  omega
theorem rp_dec (u : Nat) : ∀ (rest : List UInt8) (ps : List Int), (Lib.decDigits u).length ≤ 7 → rp (Lib.decDigits u ++ rest) ps 0 0 = rp rest ps u (Lib.decDigits u).length := by
  induction u using Nat.strongRecOn with
  | _ u ih =>
    intro rest ps hl
    by_cases h : u < 10
    · rw [dec_one h]
      rw [show [UInt8.ofNat (48 + u)] ++ rest = UInt8.ofNat (48 + u) :: rest from rfl, rp_digit _ _ _ _ _ u h rfl (by omega)]
      simp
    · rw [dec_step h] at hl ⊢
      rw [List.length_append] at hl ⊢
      simp only [List.length_singleton] at hl ⊢
      rw [List.append_assoc, ih (u / 10) (by omega) _ _ (by omega)]
      rw [show [UInt8.ofNat (48 + u % 10)] ++ rest = UInt8.ofNat (48 + u % 10) :: rest from rfl, rp_digit _ _ _ _ _ (u % 10) (by omega) rfl (by omega)]
      congr 1
      omega
theorem okN_nat {n : Int} (h : okN n = true) : ∃ u : Nat, n = (u : Int) ∧ u ≤ 1048576 := by
  simp [okN] at h
  exact ⟨n.toNat, by omega, by omega⟩
theorem itoa_okN {n : Int} (h : okN n = true) : ∃ u : Nat, n = (u : Int) ∧ Lib.itoa n = Lib.decDigits u ∧ (Lib.decDigits u).length ≤ 7 ∧ u ≤ 1048576 := by
  obtain ⟨u, rfl, hu⟩ := okN_nat h
  exact ⟨u, rfl, itoa_nn u, dec_len u 7 (by omega) (by omega), hu⟩
theorem rp_text : ∀ (l : List Int), l ≠ [] → l.all okN = true → ∀ ps, rp ((dots l).drop 1) ps 0 0 = some (ps ++ l)
  | [], h, _, _ => absurd rfl h
  | [n], _, ha, ps => by
    simp at ha
    obtain ⟨u, rfl, hi, hl, hu⟩ := itoa_okN ha
    simp only [dots, List.drop_succ_cons, List.drop_zero, hi]
    rw [rp_dec u _ _ hl]
    rfl
  | n :: m :: l, _, ha, ps => by
    simp only [List.all_cons, Bool.and_eq_true] at ha
    obtain ⟨u, rfl, hi, hl, hu⟩ := itoa_okN ha.1
    have ih := rp_text (m :: l) (by simp) (by simp [ha.2.1, ha.2.2]) (ps ++ [(u : Int)])
    have hd : dots (m :: l) = 46 :: (dots (m :: l)).drop 1 := by simp [dots]
    rw [show dots ((u : Int) :: m :: l) = 46 :: (Lib.itoa (u : Int) ++ dots (m :: l)) from rfl]
    simp only [List.drop_succ_cons, List.drop_zero, hi]
    rw [rp_dec u _ _ hl, hd, rp, if_pos rfl, ih, List.append_assoc]
    rfl
theorem parseUint_dec (u : Nat) : ∀ (rest : List UInt8), u ≤ 1000000000 → Lib.parseUint10 0 (Lib.decDigits u ++ rest) = Lib.parseUint10 u rest := by
  induction u using Nat.strongRecOn with
  | _ u ih =>
    intro rest hu
    by_cases h : u < 10
    · rw [dec_one h]
      rw [show [UInt8.ofNat (48 + u)] ++ rest = UInt8.ofNat (48 + u) :: rest from rfl, Lib.parseUint10, dig_nat h, if_pos (by omega), if_neg (by omega), if_neg (by omega)]
      congr 1
      omega
    · rw [dec_step h, List.append_assoc, ih (u / 10) (by omega) _ (by omega)]
      rw [show [UInt8.ofNat (48 + u % 10)] ++ rest = UInt8.ofNat (48 + u % 10) :: rest from rfl, Lib.parseUint10, dig_nat (by omega), if_pos (by omega), if_neg (by omega), if_neg (by omega)]
      congr 1
      omega
theorem atoiR_itoa {n : Int} (h : okN n = true) : atoiR (Lib.itoa n) = some n := by
  obtain ⟨u, rfl, hi, hl, hu⟩ := itoa_okN h
  rw [hi]
  have hne := dec_ne u
  have hdig := dec_dig u
  have hp := parseUint_dec u [] (by omega)
  rw [List.append_nil] at hp
  unfold atoiR
  cases hd : Lib.decDigits u with
  | nil => exact absurd hd hne
  | cons c r =>
    have hc := hdig c (by rw [hd]; simp)
    rw [hd] at hp
    have hm : Lib.parseMag (c :: r) = .ok u := by
      unfold Lib.parseMag
      rw [if_neg (by simp), hp]
      rfl
    simp only [Lib.atoiAll]
    rw [if_neg (by omega), hm]
    simp only []
    rw [if_neg (by omega), if_neg (by omega), if_neg (by omega)]
theorem splitB_app {c : UInt8} {w r : List UInt8} (h : ∀ x ∈ w, x ≠ c) : splitB c (w ++ c :: r) = w :: splitB c r := by
  have h1 := splitB_at (c := c) (l := w ++ c :: r) (m := w.length) (by simp) (fun k hk e => by
    rw [List.getElem?_append_left hk] at e
    exact h c (List.mem_of_getElem? e) rfl)
  rw [h1]
  simp [List.drop_append, List.drop_of_length_le (show w.length ≤ w.length + 1 by omega)]
theorem itoa_no46 {n : Int} (h : okN n = true) : ∀ x ∈ Lib.itoa n, x ≠ 46 := by
  obtain ⟨u, rfl, hi, hl, hu⟩ := itoa_okN h
  intro x hx e
  rw [hi] at hx
  have := dec_dig u x hx
  subst e
  have : (46 : UInt8).toNat = 46 := rfl
  omega
theorem split_text : ∀ (l : List Int), l ≠ [] → l.all okN = true → splitB 46 ((dots l).drop 1) = l.map Lib.itoa
  | [], h, _ => absurd rfl h
  | [n], _, ha => by
    simp at ha
    simp only [dots, List.drop_succ_cons, List.drop_zero, List.append_nil, List.map_cons, List.map_nil]
    refine splitB_none (fun k e => itoa_no46 ha 46 (List.mem_of_getElem? e) rfl)
  | n :: m :: l, _, ha => by
    simp only [List.all_cons, Bool.and_eq_true] at ha
    have ih := split_text (m :: l) (by simp) (by simp [ha.2.1, ha.2.2])
    have hd : dots (m :: l) = 46 :: (dots (m :: l)).drop 1 := by simp [dots]
    rw [show dots (n :: m :: l) = 46 :: (Lib.itoa n ++ dots (m :: l)) from rfl]
    simp only [List.drop_succ_cons, List.drop_zero]
    rw [hd, splitB_app (itoa_no46 ha.1), ih]
    rfl
theorem run_itoas : ∀ (l o : List Int), l.all okN = true → o.length + l.length ≤ 6 → (l.map Lib.itoa).foldl stepP (some o) = some (o ++ l)
  | [], o, _, _ => by simp
  | n :: l, o, ha, hl => by
    simp only [List.all_cons, Bool.and_eq_true] at ha
    simp only [List.length_cons] at hl
    simp only [List.map_cons, List.foldl_cons, stepP, atoiR_itoa ha.1]
    rw [if_neg (by omega), run_itoas l _ ha.2 (by simp; omega), List.append_assoc]
    rfl
theorem okP_reads {s : List UInt8} {p : List Int} (h0 : s ≠ []) (h : okP s p = true) : rp s [] 0 0 = some p ∧ runP (splitB 46 s) = some p := by
  simp only [okP, pathRight, Bool.and_eq_true, decide_eq_true_eq, beq_iff_eq] at h
  obtain ⟨⟨h6, ha⟩, ht⟩ := h
  have hne : p ≠ [] := by rintro rfl; exact h0 (by rw [← ht]; rfl)
  constructor
  · rw [← ht]
    exact (rp_text p hne ha []).trans (by simp)
  · rw [← ht, show ptextB p = (dots p).drop 1 from rfl, split_text p hne ha]
    exact (run_itoas p [] ha (by simpa using h6)).trans (by simp)
theorem parse_some {s : List UInt8} {p : List Int} : refParse s = some p ↔ (s = [] ∧ p = []) ∨ (s ≠ [] ∧ okP s p = true) := by
  unfold refParse
  by_cases h0 : s = []
  · rw [if_pos h0]
    constructor
    · intro h; cases h; exact .inl ⟨h0, rfl⟩
    · rintro (⟨_, rfl⟩ | ⟨h, _⟩)
      · rfl
      · exact absurd h0 h
  · rw [if_neg h0]
    constructor
    · intro h
      split at h
      · cases h
      · split at h
        · cases h; exact .inr ⟨h0, by assumption⟩
        · cases h
    · rintro (⟨h, _⟩ | ⟨_, h⟩)
      · exact absurd h h0
      · rw [(okP_reads h0 h).1]; simp [h]
theorem pathParse_some {s : List UInt8} {p : List Int} : pathParse s = some p ↔ (s = [] ∧ p = []) ∨ (s ≠ [] ∧ okP s p = true) := by
  unfold pathParse
  by_cases h0 : s = []
  · rw [if_pos h0]
    constructor
    · intro h; cases h; exact .inl ⟨h0, rfl⟩
    · rintro (⟨_, rfl⟩ | ⟨h, _⟩)
      · rfl
      · exact absurd h0 h
  · rw [if_neg h0]
    constructor
    · intro h
      split at h
      · cases h
      · split at h
        · cases h; exact .inr ⟨h0, by assumption⟩
        · cases h
    · rintro (⟨h, _⟩ | ⟨_, h⟩)
      · exact absurd h h0
      · rw [(okP_reads h0 h).2]; simp [h]
/-- The two Parses answer alike. -/
theorem parse_eq (s : List UInt8) : pathParse s = refParse s := by
  cases h : refParse s with
  | some p => exact pathParse_some.2 (parse_some.1 h)
  | none =>
    cases h2 : pathParse s with
    | none => rfl
    | some p => rw [parse_some.2 (pathParse_some.1 h2)] at h; cases h
theorem dots_ne {l : List Int} (h : l.all okN = true) (hl : l ≠ []) : (dots l).drop 1 ≠ [] := by
  cases l with
  | nil => exact absurd rfl hl
  | cons n l =>
    simp only [List.all_cons, Bool.and_eq_true] at h
    obtain ⟨u, rfl, hi, _, _⟩ := itoa_okN h.1
    simp only [dots, List.drop_succ_cons, List.drop_zero, hi]
    intro e
    exact dec_ne u (List.append_eq_nil_iff.1 e).1
/-- A path's text is read back. -/
theorem parse_text {p : List Int} (h : pathRight p = true) : pathParse (ptextB p) = some p := by
  have h2 := h
  simp only [pathRight, Bool.and_eq_true, decide_eq_true_eq] at h2
  refine pathParse_some.2 ?_
  by_cases hp : p = []
  · subst hp; exact .inl ⟨rfl, rfl⟩
  · exact .inr ⟨dots_ne h2.2 hp, by simp [okP, h]⟩
end Go.Proofs.YtbgkohfifcfofaaDoor
