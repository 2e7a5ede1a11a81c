/- Digests of bytes: what the reference reckons: the same. -/
import Derived.Test.YtbgkohfifcfofaaDigW
import Derived.Test.YtbgkohfifcfofaaClB
set_option linter.unusedVariables false
set_option linter.unusedSimpArgs false
set_option maxRecDepth 100000
open Go.RowKit
namespace Go.Proofs.Ytbgkohfifcfofaa
open Go.Proofs

def e8 (n : Nat) : Nat → List UInt8
  | 0 => []
  | k + 1 => e8 n k ++ [UInt8.ofNat (n / 2 ^ (8 * k) % 256)]
theorem e8_len (n : Nat) : ∀ k, (e8 n k).length = k
  | 0 => rfl
  | k + 1 => by simp [e8, e8_len n k]
theorem dgAll_e8 (p : Int × Int) (n : Nat) : ∀ k, dgAll p (e8 n k) = dgNum p n k
  | 0 => rfl
  | k + 1 => by
    rw [e8, dgAll_snoc, dgAll_e8 p n k, dgNum]
    congr 1
    simp
theorem dgAll_app (l m : List UInt8) : ∀ p, dgAll p (l ++ m) = dgAll (dgAll p l) m := by
  induction l with
  | nil => intro p; rfl
  | cons a l ih => intro p; simp [dgAll, ih]
theorem digOf_e8 (l : List UInt8) : digOf l = dgEnd (dgAll (1, 40389) (l ++ e8 l.length 8)) := by
  rw [digOf, dgAll_app, dgAll_e8]
theorem dgAll_range (l : List UInt8) : ∀ p : Int × Int, (0 ≤ p.1 ∧ p.1 < 4294967296) ∧ (0 ≤ p.2 ∧ p.2 < 4294967296) → (0 ≤ (dgAll p l).1 ∧ (dgAll p l).1 < 4294967296) ∧ (0 ≤ (dgAll p l).2 ∧ (dgAll p l).2 < 4294967296) := by
  induction l with
  | nil => exact fun p h => h
  | cons a l ih =>
    intro p h
    refine ih _ ?_
    simp only [dgTake]
    exact ⟨by omega, rot7_range _ (by omega) (by omega)⟩
theorem u8_cast (n : Nat) (h : n < 256) : Value.int .u8 ((n : Nat) : Int) = encB (UInt8.ofNat n) := by
  simp [encB, Nat.mod_eq_of_lt h]
set_option maxHeartbeats 1000000 in
theorem ref_eight (w : World) (n : Nat) (hn : n < 9223372036854775808) :
    Calls Try.prog 39 #[.int .i64 (n : Int)] w (RetOwn encB 5 (e8 n 8) w) := by
  go_enter Try.func39, Try.ntmps39
  go_wp2
  go_loopw [3, 4, 5] (fun v u i W => ∃ k m : Nat, k ≤ 8 ∧ i = .int .i64 k ∧ Hid (m = n / 2 ^ (8 * k)) ∧ m < 9223372036854775808 ∧ u = .int .u64 m ∧ Below w.heap.size w W ∧ Own encB 5 W w.heap.size v (e8 n k)) (fun _ _ i _ => 8 - (intOf i).toNat)
  case atStart => exact ⟨0, n, by omega, rfl, Lib.hid (by simp), hn, rfl, Below.refl _ _, Own.nil _ _ _ _⟩
  case round =>
    obtain ⟨k, m, hk, rfl, hm, hm1, rfl, hB, hown⟩ := hrel
    by_cases h8 : k < 8
    · obtain ⟨A, n0, c0, rfl⟩ := hown.row.shp
      have hv := hown.below ((Below.refl _ wr).alloc (Nat.le_refl _) (.cells #[.int .u8 ((m % 256 : Nat) : Int)] 5))
      have hu : Src (wr.alloc (.cells #[.int .u8 ((m % 256 : Nat) : Int)] 5)) 1 (.slice (some ⟨wr.heap.size, 0, none⟩) 1 1) [UInt8.ofNat (m % 256)].length ([UInt8.ofNat (m % 256)].map encB) := by
        have := Src.lit wr 1 #[.int .u8 ((m % 256 : Nat) : Int)] 5 1 1 rfl
        rw [u8_cast _ (by omega)] at this ⊢
        exact this
      have hby : ((e8 n k).length + [UInt8.ofNat (m % 256)].length) * 1 ≤ 140737488355328 := by rw [e8_len]; simp; omega
      have hsz : w.heap.size ≤ (wr.alloc (.cells #[.int .u8 ((m % 256 : Nat) : Int)] 5)).heap.size := by have := hB.size; simp; omega
      replace hv := Lib.hid hv; replace hu := Lib.hid hu; replace hby := Lib.hid hby; replace hsz := Lib.hid hsz
      go_wp2_with (at_builtin; go_must (refine wp_app_own (fun _ => rfl) elB elB.t (by simp) hv.out hu.out hby.out hsz.out rfl _ _ rfl rfl rfl ?_); rintro v' w3 ha; replace ha := Lib.hid ha)
      have ha := ha.out
      have hkk : Keeps (fun b => (Value.slice A n0 c0).ownBlock = some b) wr w3 := ((Keeps.refl _ wr).alloc _).trans ha.keep (fun b _ h => h)
      refine ⟨⟨k + 1, m / 256, by omega, by go_num, Lib.hid ?_, by omega, by go_num, hB.trans (hkk.belowB hB.size (fun b hb he => by have := (hown.lt b he).1; omega)), ?_⟩, by simp [intOf]; omega⟩
      · rw [hm.out, Nat.div_div_eq_div_mul, show 256 = 2 ^ 8 from rfl, ← Nat.pow_add]
        congr 2
      · rw [e8, ← hm.out]; exact ha.own
    · obtain rfl : k = 8 := by omega
      obtain ⟨A, n0, c0, rfl⟩ := hown.row.shp
      go_wp2
      go_ret
      exact ⟨_, rfl, hB, hown⟩
set_option maxHeartbeats 2000000 in
theorem ref_digest (w : World) (F : Nat → Prop) (v : Value) (xs : List UInt8) (hr : Row encB w F v xs) (hl : xs.length ≤ 100000000000) (hF : ∀ b, F b → b < w.heap.size) :
    Calls Try.prog 33 #[v] w (RetB (.int .i64 (digOf xs)) w) := by
  obtain ⟨A, c, rfl, hc1, hc2⟩ := hr.shape
  have hv := Own.empty encB 5 w w.heap.size (Nat.le_refl _)
  have hu := (hr.below ((Below.refl _ w).alloc (Nat.le_refl _) (.cells #[] 5))).src
  have hb : (([] : List UInt8).length + xs.length) * 1 ≤ 140737488355328 := by simp; omega
  have hw : w.heap.size ≤ (w.alloc (.cells #[] 5)).heap.size := by simp
  replace hv := Lib.hid hv; replace hu := Lib.hid hu; replace hb := Lib.hid hb; replace hw := Lib.hid hw
  replace hr := Lib.hid hr; replace hF := Lib.hid hF
  have tok : Hid True := Lib.hid trivial
  go_enter Try.func33, Try.ntmps33
  go_wp2_with (at_builtin; go_must (refine wp_app_own (fun _ => rfl) elB elB.t (by simp) hv.out hu.out hb.out hw.out rfl _ _ rfl rfl rfl ?_); rintro v1 w1 ha; obtain ⟨A1, n1, c1, rfl⟩ := ha.own.row.shp; replace ha := Lib.hid ha)
  have hk1 : Keeps NoB w w1 := ((Keeps.refl NoB w).alloc _).trans ha.out.keep (by intro b hb h; simp [Value.ownBlock] at h; omega)
  refine (ref_eight w1 xs.length (by omega)).mono ?_
  rintro e w2 ⟨u, rfl, hb2, hown2⟩
  have hv2 := ha.out.own.below hb2
  have hu2 := hown2.row.src
  rw [e8_len] at hu2
  have hby2 : ((([] ++ xs) : List UInt8).length + (e8 xs.length 8).length) * 1 ≤ 140737488355328 := by rw [e8_len]; simp; omega
  have hw2 : w.heap.size ≤ w2.heap.size := by have := hk1.size; have := hb2.size; omega
  obtain ⟨A2, n2, c2, rfl⟩ := hown2.row.shp
  rw [← e8_len xs.length 8] at hu2
  replace hv2 := Lib.hid hv2; replace hu2 := Lib.hid hu2; replace hby2 := Lib.hid hby2; replace hw2 := Lib.hid hw2
  have hb12 : Hid (Below w.heap.size w w2) := Lib.hid (hk1.below.trans (hb2.mono hk1.size))
  have hal : Hid (∀ b, (Value.slice A1 n1 c1).ownBlock = some b → w.heap.size ≤ b) := Lib.hid (fun b hb => (ha.out.own.lt b hb).1)
  clear hk1 hb2 hown2 hv hu hb hw
  go_wp2_with (at_builtin; go_must (refine wp_app_own (fun _ => rfl) elB elB.t (by simp) hv2.out hu2.out hby2.out hw2.out rfl _ _ rfl rfl rfl ?_); rintro v3 w3 ha3; have hlen3 := ha3.own.1; obtain ⟨A3, n3, c3, rfl⟩ := ha3.own.row.shp; replace ha3 := Lib.hid ha3)
  have hrow := ha3.out.own.row
  obtain ⟨hn3, hn3c, hc3m⟩ := hrow.len
  simp only [maxLen] at hc3m
  have hdig := digOf_e8 xs
  rw [show ([] ++ xs ++ e8 xs.length 8 : List UInt8) = xs ++ e8 xs.length 8 from rfl] at *
  generalize hys : xs ++ e8 xs.length 8 = ys at *
  subst hn3
  have hb3 : Hid (Below w.heap.size w w3) := Lib.hid (hb12.out.trans (ha3.out.keep.belowB hw2.out (fun b hb he => by have := hal.out b he; omega)))
  clear hv2 hu2 hby2 hw2 hal hb12 ha hlen3
  replace ha3 := Lib.hid ha3; replace hrow := Lib.hid hrow; replace hdig := Lib.hid hdig; replace hys := Lib.hid hys
  go_loop [3, 4, 7, 8, 18] (fun a b _ _ i => ∃ k : Nat, k ≤ ys.length ∧ i = .int .i64 k ∧ a = .int .u64 (dgAll (1, 40389) (ys.take k)).1 ∧ b = .int .u64 (dgAll (1, 40389) (ys.take k)).2) (fun _ _ _ _ i => ys.length - (intOf i).toNat)
  case atStart => exact ⟨0, by omega, rfl, rfl, rfl⟩
  case round =>
    obtain ⟨k, hk, rfl, rfl, rfl⟩ := hrel
    obtain ⟨⟨r1, r2⟩, r3, r4⟩ := dgAll_range (ys.take k) (1, 40389) ⟨by decide, by decide⟩
    by_cases hlt : k < ys.length
    · obtain ⟨x, hxk⟩ := get_some_of_lt hlt
      obtain ⟨b, o, rfl, _, hck⟩ := hrow.out.at hxk
      simp only [encB] at hck
      have hx1 := x.toNat_lt
      have hsn : dgAll (1, 40389) (ys.take (k + 1)) = dgTake (dgAll (1, 40389) (ys.take k)) x.toNat := by rw [take_snoc_get hxk, dgAll_snoc]
      generalize dgAll (1, 40389) (ys.take k) = p at *
      obtain ⟨p1, p2⟩ := p
      simp only at r1 r2 r3 r4
      replace hxk := Lib.hid hxk; replace hsn := Lib.hid hsn
      go_wp2
      refine ⟨⟨k + 1, by omega, by go_num, ?_, ?_⟩, by simp [intOf]; omega⟩
      · rw [hsn.out]; rfl
      · have e : (p2 + (p1 * 16777619 + (x.toNat : Int))) % 4294967296 = (p2 + (p1 * 16777619 + (x.toNat : Int)) % 4294967296) % 4294967296 := by omega
        rw [hsn.out, e]; rfl
    · obtain rfl : k = ys.length := by omega
      have e : ys.take ys.length = ys := List.take_of_length_le (by omega)
      rw [e] at r1 r2 r3 r4 ⊢
      have hde : Hid (digOf xs = dgEnd (dgAll (1, 40389) ys)) := Lib.hid hdig.out
      generalize dgAll (1, 40389) ys = p at *
      obtain ⟨p1, p2⟩ := p
      simp only at r1 r2 r3 r4
      go_wp2
      go_ret
      exact ⟨by rw [hde.out]; rfl, hb3.out⟩
end Go.Proofs.Ytbgkohfifcfofaa
