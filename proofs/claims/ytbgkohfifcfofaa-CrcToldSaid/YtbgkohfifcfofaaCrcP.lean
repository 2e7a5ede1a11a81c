/- The plain law of CRC-32: one turned bit, and two, of what is sealed (up to 500 bytes) are told. No program in sight. -/
import Derived.WalkKit
set_option linter.unusedVariables false
set_option linter.unusedSimpArgs false
namespace Go.Proofs.Ytbgkohfifcfofaa.CrcP

def T (r : Nat) : Nat := (r / 2) ^^^ (3988292384 * (r % 2))
def Tn : Nat → Nat → Nat
  | 0, r => r
  | k + 1, r => T (Tn k r)
def byteN (r c : Nat) : Nat := Tn 8 (r ^^^ c)
def regN (r : Nat) : List Nat → Nat
  | [] => r
  | c :: l => regN (byteN r c) l
theorem div_xor (a b : Nat) : (a ^^^ b) / 2 = a / 2 ^^^ b / 2 := by
  have := Nat.shiftRight_xor_distrib (a := a) (b := b) (i := 1)
  simpa [Nat.shiftRight_eq_div_pow] using this
theorem mod_xor (a b : Nat) : (a ^^^ b) % 2 = (a % 2 + b % 2) % 2 := by
  have := Nat.xor_mod_two_pow (a := a) (b := b) (n := 1)
  simp only [Nat.pow_one] at this
  rw [this]
  rcases Nat.mod_two_eq_zero_or_one a with h | h <;> rcases Nat.mod_two_eq_zero_or_one b with h' | h' <;> simp [h, h']
theorem T_xor (a b : Nat) : T (a ^^^ b) = T a ^^^ T b := by
  unfold T
  rw [div_xor, mod_xor]
  have key : 3988292384 * ((a % 2 + b % 2) % 2) = (3988292384 * (a % 2)) ^^^ (3988292384 * (b % 2)) := by
    rcases Nat.mod_two_eq_zero_or_one a with h | h <;> rcases Nat.mod_two_eq_zero_or_one b with h' | h' <;> simp [h, h']
  rw [key]
  ac_rfl
theorem Tn_xor (k a b : Nat) : Tn k (a ^^^ b) = Tn k a ^^^ Tn k b := by
  induction k with
  | zero => rfl
  | succ k ih => simp only [Tn, ih, T_xor]
theorem T_zero : T 0 = 0 := by decide
theorem Tn_zero (k : Nat) : Tn k 0 = 0 := by
  induction k with
  | zero => rfl
  | succ k ih => simp only [Tn, ih, T_zero]
theorem Tn_add (a b r : Nat) : Tn (a + b) r = Tn a (Tn b r) := by
  induction a with
  | zero => simp [Tn]
  | succ a ih => rw [show a + 1 + b = (a + b) + 1 from by omega]; simp only [Tn, ih]
theorem Tn_comm (k r : Nat) : Tn k (T r) = T (Tn k r) := by
  induction k with
  | zero => rfl
  | succ k ih => simp only [Tn, ih]
def zx : List Nat → List Nat → List Nat
  | a :: l, b :: m => (a ^^^ b) :: zx l m
  | _, _ => []
theorem regN_xor : ∀ (l m : List Nat), l.length = m.length → ∀ r s, regN r l ^^^ regN s m = regN (r ^^^ s) (zx l m)
  | [], [], _, r, s => rfl
  | a :: l, b :: m, h, r, s => by
    simp only [regN, zx]
    rw [regN_xor l m (by simpa using h)]
    congr 1
    simp only [byteN]
    rw [← Tn_xor]
    congr 1
    ac_rfl
  | [], _ :: _, h, _, _ => by simp at h
  | _ :: _, [], h, _, _ => by simp at h
theorem regN_zeros (k r : Nat) : regN r (List.replicate k 0) = Tn (8 * k) r := by
  induction k generalizing r with
  | zero => rfl
  | succ k ih =>
    rw [List.replicate_succ, regN, ih]
    simp only [byteN, Nat.xor_zero]
    rw [← Tn_add]
    congr 1
theorem regN_append (l m : List Nat) (r : Nat) : regN r (l ++ m) = regN (regN r l) m := by
  induction l generalizing r with
  | nil => rfl
  | cons a l ih => simp only [List.cons_append, regN, ih]
/-- One turned byte: what the register tells of it. -/
theorem regN_set (l : List Nat) (q d : Nat) (hq : q < l.length) (r : Nat) :
    regN r l ^^^ regN r (l.set q (l.getD q 0 ^^^ d)) = Tn (8 * (l.length - q)) d := by
  rw [regN_xor _ _ (by simp)]
  have e : zx l (l.set q (l.getD q 0 ^^^ d)) = List.replicate q 0 ++ d :: List.replicate (l.length - q - 1) 0 := by
    clear r
    induction l generalizing q with
    | nil => simp at hq
    | cons a l ih =>
      have hzz : ∀ l : List Nat, zx l l = List.replicate l.length 0 := by
        intro l; induction l with
        | nil => rfl
        | cons a l ih => simp [zx, ih, List.replicate_succ]
      cases q with
      | zero =>
        simp only [List.set_cons_zero, List.getD_cons_zero, zx, List.replicate_zero, List.nil_append, List.length_cons]
        rw [hzz, ← Nat.xor_assoc, Nat.xor_self, Nat.zero_xor]
        congr 1
      | succ q =>
        simp only [List.set_cons_succ, List.getD_cons_succ, zx, List.length_cons, Nat.xor_self]
        rw [ih q (by simpa using hq)]
        simp [List.replicate_succ]
  rw [e, regN_append, Nat.xor_self, regN_zeros, Tn_zero, regN, regN_zeros]
  simp only [byteN, Nat.zero_xor]
  rw [← Tn_add]
  congr 1
  omega
theorem T_pow (t : Nat) : T (2 ^ (t + 1)) = 2 ^ t := by
  unfold T
  rw [Nat.pow_succ]
  simp
theorem Tn_pow (t : Nat) : Tn t (2 ^ t) = 1 := by
  induction t with
  | zero => rfl
  | succ t ih =>
    have : Tn (t + 1) (2 ^ (t + 1)) = Tn t (T (2 ^ (t + 1))) := by simp only [Tn]; rw [Tn_comm]
    rw [this, T_pow, ih]
/-- A turned bit, as powers of T tell it. -/
theorem Tn_bit (k t : Nat) (h : t ≤ k) : Tn k (2 ^ t) = Tn (k - t) 1 := by
  have : k = (k - t) + t := by omega
  have e : Tn ((k - t) + t) (2 ^ t) = Tn (k - t) 1 := by rw [Tn_add, Tn_pow]
  rwa [← this] at e
/-- T goes back. -/
def U (r : Nat) : Nat := if r < 2147483648 then 2 * r else 2 * (r ^^^ 3988292384) + 1
theorem U_T (r : Nat) (h : r < 4294967296) : U (T r) = r := by
  unfold T U
  rcases Nat.mod_two_eq_zero_or_one r with h2 | h2
  · rw [h2]
    simp only [Nat.mul_zero, Nat.xor_zero]
    rw [if_pos (by omega)]
    omega
  · rw [h2]
    have hge : ¬ (r / 2 ^^^ 3988292384 * 1) < 2147483648 := by
      rw [Nat.mul_one]
      have hb : (r / 2 ^^^ 3988292384).testBit 31 = true := by
        rw [Nat.testBit_xor]
        have h1 : (r / 2).testBit 31 = false := Nat.testBit_lt_two_pow (by omega)
        have h2 : (3988292384 : Nat).testBit 31 = true := by decide
        rw [h1, h2]; rfl
      have := Nat.ge_two_pow_of_testBit hb
      omega
    rw [if_neg hge]
    simp only [Nat.mul_one, Nat.xor_assoc, Nat.xor_self, Nat.xor_zero]
    omega
theorem T_lt (r : Nat) (h : r < 4294967296) : T r < 4294967296 := by
  unfold T
  apply Nat.xor_lt_two_pow (n := 32)
  · omega
  · rcases Nat.mod_two_eq_zero_or_one r with h2 | h2 <;> rw [h2] <;> decide
theorem Tn_lt (k r : Nat) (h : r < 4294967296) : Tn k r < 4294967296 := by
  induction k with
  | zero => exact h
  | succ k ih => exact T_lt _ ih
theorem T_inj (a b : Nat) (ha : a < 4294967296) (hb : b < 4294967296) (h : T a = T b) : a = b := by
  have := congrArg U h
  rwa [U_T a ha, U_T b hb] at this
theorem Tn_inj (k a b : Nat) (ha : a < 4294967296) (hb : b < 4294967296) (h : Tn k a = Tn k b) : a = b := by
  induction k with
  | zero => exact h
  | succ k ih => exact ih (T_inj _ _ (Tn_lt _ _ ha) (Tn_lt _ _ hb) h)
/-- None of the next k registers is 0 or a power of two. -/
def chk : Nat → Nat → Bool
  | 0, _ => true
  | k + 1, r => if T r &&& (T r - 1) = 0 then false else chk k (T r)
theorem chk_4000 : chk 4000 1 = true := by decide +kernel
theorem chk_at : ∀ (k r : Nat), chk k r = true → ∀ e, 1 ≤ e → e ≤ k → Tn e r &&& (Tn e r - 1) ≠ 0
  | 0, _, _, e, h1, h2 => by omega
  | k + 1, r, h, e, h1, h2 => by
    unfold chk at h
    split at h
    · cases h
    · rename_i hne
      obtain ⟨e, rfl⟩ : ∃ e', e = e' + 1 := ⟨e - 1, by omega⟩
      rcases Nat.eq_zero_or_pos e with he | he
      · subst he; simpa [Tn] using hne
      · have := chk_at k (T r) h e (by omega) (by omega)
        rwa [Tn_comm] at this
theorem no_pow (e : Nat) (h1 : 1 ≤ e) (h2 : e ≤ 4000) (s : Nat) : Tn e 1 ≠ 2 ^ s := by
  intro h
  have := chk_at 4000 1 chk_4000 e h1 h2
  rw [h] at this
  exact this (Nat.and_two_pow_sub_one_eq_mod (2 ^ s) s ▸ by simp)
theorem no_zero (e : Nat) (h1 : 1 ≤ e) (h2 : e ≤ 4000) : Tn e 1 ≠ 0 := by
  intro h
  have := chk_at 4000 1 chk_4000 e h1 h2
  rw [h] at this
  simp at this
/-- What a turned bit of the message turns in the register: all of these differ. -/
theorem bits_differ (a b : Nat) (ha : 1 ≤ a) (hb : 1 ≤ b) (ha2 : a ≤ 4000) (hb2 : b ≤ 4000) (hab : a ≠ b) : Tn a 1 ≠ Tn b 1 := by
  have key : ∀ a b, a < b → 1 ≤ a → b ≤ 4000 → Tn a 1 ≠ Tn b 1 := by
    intro a b hlt ha hb h
    have e : b = a + (b - a) := by omega
    rw [e, Tn_add] at h
    have := Tn_inj a 1 (Tn (b - a) 1) (by omega) (Tn_lt _ _ (by omega)) h
    exact no_pow (b - a) (by omega) (by omega) 0 this.symm
  rcases Nat.lt_or_gt_of_ne hab with h | h
  · exact key a b h ha hb2
  · exact fun e => key b a h hb ha2 e.symm

/-! ### bytes -/
def crcN (l : List UInt8) : Nat := 4294967295 ^^^ regN 4294967295 (l.map UInt8.toNat)
def val4 (l : List UInt8) : Nat := (l.getD 0 0).toNat * 16777216 + (l.getD 1 0).toNat * 65536 + (l.getD 2 0).toNat * 256 + (l.getD 3 0).toNat
def byN (n : Nat) : UInt8 := UInt8.ofNat (n % 256)
def tail4 (v : Nat) : List UInt8 := [byN (v / 16777216), byN (v / 65536), byN (v / 256), byN v]
def sealN (l : List UInt8) : List UInt8 := l ++ tail4 (crcN l)
def flipB (x : UInt8) (t : Nat) : UInt8 := x ^^^ (1 <<< UInt8.ofNat t)
def flipAt (l : List UInt8) (i : Nat) : List UInt8 := l.set (i / 8) (flipB (l.getD (i / 8) 0) (i % 8))
theorem byN_toNat (n : Nat) : (byN n).toNat = n % 256 := by simp [byN, UInt8.toNat_ofNat']
theorem val4_tail (v : Nat) (h : v < 4294967296) : val4 (tail4 v) = v := by
  simp only [val4, tail4, List.getD_cons_zero, List.getD_cons_succ, byN_toNat]
  omega
theorem regN_lt (l : List UInt8) : ∀ r, r < 4294967296 → regN r (l.map UInt8.toNat) < 4294967296 := by
  induction l with
  | nil => intro r h; exact h
  | cons a l ih =>
    intro r h
    simp only [List.map_cons, regN]
    refine ih _ (Tn_lt _ _ ?_)
    have := a.toNat_lt
    exact Nat.xor_lt_two_pow (n := 32) h (by omega)
theorem crcN_lt (l : List UInt8) : crcN l < 4294967296 := Nat.xor_lt_two_pow (n := 32) (by omega) (regN_lt l _ (by omega))
theorem flipB_toNat (x : UInt8) (t : Nat) (h : t < 8) : (flipB x t).toNat = x.toNat ^^^ 2 ^ t := by
  have key : ∀ n : Fin 256, ∀ t : Fin 8, (flipB (UInt8.ofNat n.val) t.val).toNat = n.val ^^^ 2 ^ t.val := by decide +kernel
  have := key ⟨x.toNat, x.toNat_lt⟩ ⟨t, h⟩
  simpa using this
theorem flipB_flipB (x : UInt8) (t : Nat) (h : t < 8) : flipB (flipB x t) t = x := by
  apply UInt8.toNat_inj.1
  rw [flipB_toNat _ _ h, flipB_toNat _ _ h, Nat.xor_assoc, Nat.xor_self, Nat.xor_zero]
theorem flipAt_length (l : List UInt8) (i : Nat) : (flipAt l i).length = l.length := by simp [flipAt]
theorem flipAt_flipAt (l : List UInt8) (i : Nat) (h : i / 8 < l.length) : flipAt (flipAt l i) i = l := by
  unfold flipAt
  rw [List.set_set]
  have : (l.set (i / 8) (flipB (l.getD (i / 8) 0) (i % 8))).getD (i / 8) 0 = flipB (l.getD (i / 8) 0) (i % 8) := by
    simp [List.getD_eq_getElem?_getD, h]
  rw [this, flipB_flipB _ _ (by omega)]
  simp [List.getD_eq_getElem?_getD, h]
/-- What a text's last four bytes say beside the sum of those ahead: 0 where it is sealed. -/
def syn (n : Nat) (t : List UInt8) : Nat := crcN (t.take n) ^^^ val4 (t.drop n)
/-- What a turned bit turns of it. -/
def sig (n i : Nat) : Nat := if i < 8 * n then Tn (8 * n - i) 1 else 2 ^ (8 * (3 - (i / 8 - n)) + i % 8)
theorem getD_map0 (l : List UInt8) (q : Nat) : (l.map UInt8.toNat).getD q 0 = (l.getD q 0).toNat := by
  simp only [List.getD_eq_getElem?_getD, List.getElem?_map]
  cases l[q]? <;> rfl
set_option maxHeartbeats 1000000 in
theorem val4_flip (t : List UInt8) (k b : Nat) (hl : t.length = 4) (hk : k < 4) (hb : b < 8) : val4 (t.set k (flipB (t.getD k 0) b)) = val4 t ^^^ 2 ^ (8 * (3 - k) + b) := by
  match t, hl with
  | [x0, x1, x2, x3], _ =>
    have h0 := x0.toNat_lt; have h1 := x1.toNat_lt; have h2 := x2.toNat_lt; have h3 := x3.toNat_lt
    have or4 : ∀ a b c d : Nat, a < 256 → b < 256 → c < 256 → d < 256 → a * 16777216 + b * 65536 + c * 256 + d = (a <<< 24) ^^^ (b <<< 16) ^^^ (c <<< 8) ^^^ d := by
      intro a b c d ha hb hc hd
      have e1 : c <<< 8 ^^^ d = c * 256 + d := by
        have h := Nat.shiftLeft_add_eq_or_of_lt (a := c) (b := d) (i := 8) (by omega)
        have h' : c <<< 8 ^^^ d = c <<< 8 ||| d := by
          apply Nat.eq_of_testBit_eq; intro i
          rw [Nat.testBit_xor, Nat.testBit_or, Nat.testBit_shiftLeft]
          by_cases hi : 8 ≤ i
          · rw [Nat.testBit_lt_two_pow (x := d) (i := i) (Nat.lt_of_lt_of_le (by omega : d < 2 ^ 8) (Nat.pow_le_pow_right (by omega) hi))]; simp
          · simp [hi]
        rw [h', ← h, Nat.shiftLeft_eq]
      have e2 : b <<< 16 ^^^ (c * 256 + d) = b * 65536 + (c * 256 + d) := by
        have h := Nat.shiftLeft_add_eq_or_of_lt (a := b) (b := c * 256 + d) (i := 16) (by omega)
        have h' : b <<< 16 ^^^ (c * 256 + d) = b <<< 16 ||| (c * 256 + d) := by
          apply Nat.eq_of_testBit_eq; intro i
          rw [Nat.testBit_xor, Nat.testBit_or, Nat.testBit_shiftLeft]
          by_cases hi : 16 ≤ i
          · rw [Nat.testBit_lt_two_pow (x := c * 256 + d) (i := i) (Nat.lt_of_lt_of_le (by omega : c * 256 + d < 2 ^ 16) (Nat.pow_le_pow_right (by omega) hi))]; simp
          · simp [hi]
        rw [h', ← h, Nat.shiftLeft_eq]
      have e3 : a <<< 24 ^^^ (b * 65536 + (c * 256 + d)) = a * 16777216 + (b * 65536 + (c * 256 + d)) := by
        have h := Nat.shiftLeft_add_eq_or_of_lt (a := a) (b := b * 65536 + (c * 256 + d)) (i := 24) (by omega)
        have h' : a <<< 24 ^^^ (b * 65536 + (c * 256 + d)) = a <<< 24 ||| (b * 65536 + (c * 256 + d)) := by
          apply Nat.eq_of_testBit_eq; intro i
          rw [Nat.testBit_xor, Nat.testBit_or, Nat.testBit_shiftLeft]
          by_cases hi : 24 ≤ i
          · rw [Nat.testBit_lt_two_pow (x := b * 65536 + (c * 256 + d)) (i := i) (Nat.lt_of_lt_of_le (by omega : b * 65536 + (c * 256 + d) < 2 ^ 24) (Nat.pow_le_pow_right (by omega) hi))]; simp
          · simp [hi]
        rw [h', ← h, Nat.shiftLeft_eq]
      rw [Nat.xor_assoc, Nat.xor_assoc, e1, e2, e3]
      omega
    have fl : ∀ x : UInt8, (flipB x b).toNat = x.toNat ^^^ 2 ^ b := fun x => flipB_toNat x b hb
    have fb : ∀ x : UInt8, x.toNat ^^^ 2 ^ b < 256 := fun x => by rw [← fl]; exact (flipB x b).toNat_lt
    have sh : ∀ (x : Nat) (s : Nat), (x ^^^ 2 ^ b) <<< s = x <<< s ^^^ 2 ^ (s + b) := by
      intro x s
      rw [Nat.shiftLeft_xor_distrib, Nat.shiftLeft_eq (2 ^ b), ← Nat.pow_add, Nat.add_comm b s]
    have hval : ∀ a b c d : UInt8, val4 [a, b, c, d] = a.toNat <<< 24 ^^^ b.toNat <<< 16 ^^^ c.toNat <<< 8 ^^^ d.toNat := fun a b c d => or4 _ _ _ _ a.toNat_lt b.toNat_lt c.toNat_lt d.toNat_lt
    have hx : ∀ p q r : Nat, p ^^^ q ^^^ r = p ^^^ r ^^^ q := by intro p q r; rw [Nat.xor_assoc, Nat.xor_comm q r, ← Nat.xor_assoc]
    have hpk : k = 0 ∨ k = 1 ∨ k = 2 ∨ k = 3 := by omega
    rcases hpk with rfl | rfl | rfl | rfl
    · show val4 [flipB x0 b, x1, x2, x3] = _
      rw [hval, hval, fl, sh, hx (x0.toNat <<< 24), hx _ (2 ^ (24 + b)) (x2.toNat <<< 8), hx _ (2 ^ (24 + b)) x3.toNat]
    · show val4 [x0, flipB x1 b, x2, x3] = _
      rw [hval, hval, fl, sh, ← Nat.xor_assoc, hx _ (2 ^ (16 + b)) (x2.toNat <<< 8), hx _ (2 ^ (16 + b)) x3.toNat]
    · show val4 [x0, x1, flipB x2 b, x3] = _
      rw [hval, hval, fl, sh, ← Nat.xor_assoc, hx _ (2 ^ (8 + b)) x3.toNat]
    · show val4 [x0, x1, x2, flipB x3 b] = _
      rw [hval, hval, fl, ← Nat.xor_assoc, show 8 * (3 - 3) + b = b from by omega]
theorem syn_flip (n i : Nat) (t : List UInt8) (hl : t.length = n + 4) (hi : i < 8 * (n + 4)) : syn n (flipAt t i) = syn n t ^^^ sig n i := by
  unfold syn sig
  by_cases h : i < 8 * n
  · rw [if_pos h]
    have hq : i / 8 < n := by omega
    have e1 : (flipAt t i).drop n = t.drop n := by
      unfold flipAt
      rw [List.drop_set, if_pos hq]
    have e2 : (flipAt t i).take n = (t.take n).set (i / 8) (flipB (t.getD (i / 8) 0) (i % 8)) := by
      unfold flipAt
      rw [List.take_set]
    rw [e1, e2]
    have hget : t.getD (i / 8) 0 = (t.take n).getD (i / 8) 0 := by
      simp [List.getD_eq_getElem?_getD, List.getElem?_take, hq]
    rw [hget]
    generalize hm : t.take n = m
    have hml : m.length = n := by rw [← hm, List.length_take]; omega
    have key := regN_set (m.map UInt8.toNat) (i / 8) (2 ^ (i % 8)) (by simp; omega) 4294967295
    have hmap : (m.set (i / 8) (flipB (m.getD (i / 8) 0) (i % 8))).map UInt8.toNat = (m.map UInt8.toNat).set (i / 8) ((m.map UInt8.toNat).getD (i / 8) 0 ^^^ 2 ^ (i % 8)) := by
      rw [List.map_set, flipB_toNat _ _ (by omega), getD_map0]
    rw [← hmap, List.length_map, hml, Tn_bit _ _ (by omega)] at key
    have he : 8 * (n - i / 8) - i % 8 = 8 * n - i := by omega
    rw [he] at key
    unfold crcN
    rw [← key]
    have hx : ∀ a b c d : Nat, a ^^^ c ^^^ d = a ^^^ b ^^^ d ^^^ (b ^^^ c) := by
      intro a b c d
      have : a ^^^ b ^^^ d ^^^ (b ^^^ c) = a ^^^ c ^^^ d ^^^ (b ^^^ b) := by ac_rfl
      rw [this, Nat.xor_self, Nat.xor_zero]
    exact hx _ _ _ _
  · rw [if_neg h]
    have hq : n ≤ i / 8 := by omega
    have e1 : (flipAt t i).take n = t.take n := by
      unfold flipAt
      rw [List.take_set, List.set_eq_of_length_le (by rw [List.length_take]; omega)]
    have e2 : (flipAt t i).drop n = (t.drop n).set (i / 8 - n) (flipB ((t.drop n).getD (i / 8 - n) 0) (i % 8)) := by
      unfold flipAt
      rw [List.drop_set, if_neg (by omega)]
      congr 2
      simp only [List.getD_eq_getElem?_getD, List.getElem?_drop]
      rw [show n + (i / 8 - n) = i / 8 from by omega]
    rw [e1, e2, val4_flip _ _ _ (by rw [List.length_drop]; omega) (by omega) (by omega), Nat.xor_assoc]
def openN (l : List UInt8) : Bool := decide (4 ≤ l.length) && (sealN (l.take (l.length - 4)) == l)
theorem tail4_val (t : List UInt8) (h : t.length = 4) : tail4 (val4 t) = t := by
  match t, h with
  | [x0, x1, x2, x3], _ =>
    have h0 := x0.toNat_lt; have h1 := x1.toNat_lt; have h2 := x2.toNat_lt; have h3 := x3.toNat_lt
    have e : ∀ (n : Nat) (x : UInt8), n % 256 = x.toNat → byN n = x := fun n x h => UInt8.toNat_inj.1 (by rw [byN_toNat, h])
    simp only [tail4, val4, List.getD_cons_zero, List.getD_cons_succ]
    rw [e _ x0 (by omega), e _ x1 (by omega), e _ x2 (by omega), e _ x3 (by omega)]
theorem openN_syn (n : Nat) (t : List UInt8) (hl : t.length = n + 4) : openN t = (syn n t == 0) := by
  unfold openN
  rw [show t.length - 4 = n from by omega]
  have hd : (t.drop n).length = 4 := by rw [List.length_drop]; omega
  have h4 : decide (4 ≤ t.length) = true := by simp; omega
  rw [h4, Bool.true_and]
  rw [Bool.eq_iff_iff, beq_iff_eq, beq_iff_eq]
  constructor
  · intro h
    unfold syn
    have h2 : tail4 (crcN (t.take n)) = t.drop n := by
      have e : sealN (t.take n) = t.take n ++ t.drop n := by rw [h, List.take_append_drop]
      exact List.append_cancel_left e
    rw [← h2, val4_tail _ (crcN_lt _), Nat.xor_self]
  · intro h
    unfold syn at h
    have h2 : crcN (t.take n) = val4 (t.drop n) := by
      have := congrArg (· ^^^ val4 (t.drop n)) h
      simpa [Nat.xor_assoc] using this
    unfold sealN
    rw [h2, tail4_val _ hd, List.take_append_drop]
theorem sealN_length (l : List UInt8) : (sealN l).length = l.length + 4 := by simp [sealN, tail4]
theorem syn_seal (l : List UInt8) : syn l.length (sealN l) = 0 := by
  have h := openN_syn l.length (sealN l) (sealN_length l)
  have h2 : openN (sealN l) = true := by
    unfold openN
    rw [sealN_length]
    simp [sealN]
  rw [h2] at h
  exact (beq_iff_eq).1 h.symm
theorem sig_ne (n i j : Nat) (hn : n ≤ 500) (hi : i < 8 * (n + 4)) (hj : j < 8 * (n + 4)) (h : i ≠ j) : sig n i ≠ sig n j := by
  unfold sig
  by_cases h1 : i < 8 * n <;> by_cases h2 : j < 8 * n
  · rw [if_pos h1, if_pos h2]
    exact bits_differ _ _ (by omega) (by omega) (by omega) (by omega) (by omega)
  · rw [if_pos h1, if_neg h2]
    exact no_pow _ (by omega) (by omega) _
  · rw [if_neg h1, if_pos h2]
    exact (no_pow _ (by omega) (by omega) _).symm
  · rw [if_neg h1, if_neg h2]
    intro e
    have := (Nat.pow_right_inj (by omega : 1 < 2)).1 e
    omega
theorem sig_zero (n i : Nat) (hn : n ≤ 500) (hi : i < 8 * (n + 4)) : sig n i ≠ 0 := by
  unfold sig
  by_cases h1 : i < 8 * n
  · rw [if_pos h1]; exact no_zero _ (by omega) (by omega)
  · rw [if_neg h1]; have := Nat.two_pow_pos (8 * (3 - (i / 8 - n)) + i % 8); omega
theorem one_told (l : List UInt8) (hl : l.length ≤ 500) (i : Nat) (hi : i < 8 * (l.length + 4)) : openN (flipAt (sealN l) i) = false := by
  rw [openN_syn l.length _ (by rw [flipAt_length, sealN_length]), syn_flip _ _ _ (sealN_length l) hi, syn_seal, Nat.zero_xor]
  simp [sig_zero _ _ hl hi]
theorem two_told (l : List UInt8) (hl : l.length ≤ 500) (i j : Nat) (hi : i < 8 * (l.length + 4)) (hj : j < 8 * (l.length + 4)) (h : i ≠ j) : openN (flipAt (flipAt (sealN l) i) j) = false := by
  rw [openN_syn l.length _ (by rw [flipAt_length, flipAt_length, sealN_length]), syn_flip _ _ _ (by rw [flipAt_length, sealN_length]) hj, syn_flip _ _ _ (sealN_length l) hi, syn_seal, Nat.zero_xor]
  simp only [beq_eq_false_iff_ne, ne_eq]
  intro e
  apply sig_ne _ _ _ hl hi hj h
  have := congrArg (· ^^^ sig l.length j) e
  simpa [Nat.xor_assoc] using this
end Go.Proofs.Ytbgkohfifcfofaa.CrcP
