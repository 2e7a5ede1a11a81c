/- Digests of bytes: what the program's functions reckon. -/
import Derived.Test.YtbgkohfifcfofaaProg
import Derived.Test.YtbgkohfifcfofaaBase
import Derived.Laws.BitsLemmas
import Derived.BigRegion
set_option linter.unusedVariables false
set_option linter.unusedSimpArgs false
set_option maxRecDepth 100000
open Go.RowKit
namespace Go.Proofs.Ytbgkohfifcfofaa
open Go.Proofs

def rot7 (x : Int) : Int := x * 128 % 4294967296 + x / 33554432
theorem wraps_u32 (n : Int) (h₀ : 0 ≤ n) (h₁ : n < 2 ^ 32) : IntKind.u32.wrap n = n := by rw [IntKind.wrap_u32]; omega
theorem rot7_or (x : Int) (h0 : 0 ≤ x) (h1 : x < 4294967296) : bits .or .u32 (x * 128 % 4294967296) (x / 33554432) = rot7 x :=
  bits_join .u32 32 (by decide) wraps_u32 7 _ _ (by omega) (by omega) (by omega) (by omega) (by omega) (by omega)
theorem rot7_range (x : Int) (h0 : 0 ≤ x) (h1 : x < 4294967296) : 0 ≤ rot7 x ∧ rot7 x < 4294967296 := by unfold rot7; omega
theorem rotate_ok (w : World) (x : Int) (h0 : 0 ≤ x) (h1 : x < 4294967296) :
    Calls Try.prog 40 #[.int .u32 x, .int .i64 7] w fun e w' => e = .returned (.int .u32 (rot7 x)) ∧ w = w' := by
  have hr := rot7_or x h0 h1
  replace hr := Lib.hid hr
  go_enter Try.func40, Try.ntmps40
  have hb : bits .and .u64 7 31 = 7 := by decide +kernel
  go_wp2
  go_ret
  exact ⟨by rw [← hr.out]; rfl, rfl⟩
/-- a pair takes a byte -/
def dgTake (p : Int × Int) (c : Int) : Int × Int := ((p.1 * 16777619 + c) % 4294967296, rot7 ((p.2 + (p.1 * 16777619 + c) % 4294967296) % 4294967296))
structure PairAt (w : World) (bp : Nat) (p : Int × Int) : Prop where
  at_ : w.heap[bp]? = some (.cells #[.int .u32 p.1, .int .u32 p.2] 75 (0, 0))
  r1 : 0 ≤ p.1 ∧ p.1 < 4294967296
  r2 : 0 ≤ p.2 ∧ p.2 < 4294967296
def RetPair (bp : Nat) (p : Int × Int) (w : World) : Ending → World → Prop := fun e w' => e = .returned (.tuple #[]) ∧ Keeps (fun b => b = bp) w w' ∧ PairAt w' bp p
theorem pair_fin {w W : World} {bp : Nat} {a b c A : Int} (hA : 0 ≤ A ∧ A < 4294967296) (hb : 0 ≤ b ∧ b < 4294967296) (e : (a * 16777619 + c) % 4294967296 = A) {x y : Value}
    (g : W.heap[bp]? = some (.cells (#[x, y].setIfInBounds 0 (.int .u32 A)) 75 (0, 0))) (k : Keeps (fun b => b = bp) w W) :
    RetPair bp (dgTake (a, b) c) w (.returned (.tuple #[])) (W.setCell ⟨bp, 1, none⟩ (.int .u32 (rot7 ((b + A) % 4294967296)))).drew := by
  refine ⟨rfl, (k.setCell (a := ⟨bp, 1, none⟩) (fun _ => rfl) _).drew, ?_, ?_, ?_⟩
  · show (W.setCell _ _).heap[bp]? = _
    rw [get_setCell g]
    simp [dgTake, e]
  · simp only [dgTake]; omega
  · simp only [dgTake]
    exact rot7_range _ (by omega) (by omega)
set_option maxHeartbeats 1000000 in
theorem pair_take (w : World) (bp : Nat) (p : Int × Int) (c : Int) (hc : 0 ≤ c ∧ c < 256) (h : PairAt w bp p) :
    Calls Try.prog 37 #[.pointer (some ⟨bp, 0, none⟩), .int .u8 c] w (RetPair bp (dgTake p c) w) := by
  obtain ⟨h1, ⟨h2, h3⟩, h4, h5⟩ := h
  obtain ⟨a, b⟩ := p
  simp only at *
  have c0 := cell_of_get h1 (o := 0) rfl
  have c1 := cell_of_get h1 (o := 1) rfl
  have f0 := free_of_get h1 (o := 0)
  have f1 := free_of_get h1 (o := 1)
  replace h1 := Lib.hid h1
  go_enter Try.func37, Try.ntmps37
  go_wp2
  have e1 : ((a * 16777619 % 4294967296 + c) % 4294967296) = ((a * 16777619 + c) % 4294967296) := by omega
  generalize hA : ((a * 16777619 + c) % 4294967296) = A at *
  have hA1 : 0 ≤ A ∧ A < 4294967296 := by omega
  have k1 : Keeps (fun b => b = bp) w (w.setCell ⟨bp, 0, none⟩ (.int .u32 A)) := (Keeps.refl (fun b => b = bp) w).setCell (a := ⟨bp, 0, none⟩) (fun _ => rfl) _
  have g1 := get_setCell h1.out (.int .u32 A) (o := 0)
  generalize hW : w.setCell ⟨bp, 0, none⟩ (.int .u32 A) = W at *
  have d0 := cell_of_get g1 (o := 0) rfl
  have d1 := cell_of_get g1 (o := 1) rfl
  have j1 := free_of_get g1 (o := 1)
  clear c0 c1 f0 f1 e1
  replace hW := Lib.hid hW; replace hA := Lib.hid hA; replace g1 := Lib.hid g1
  go_region_with (go_at_call 40; refine (rotate_ok _ _ (by rw [IntKind.wrap_u32]; omega) (by rw [IntKind.wrap_u32]; omega)).mono ?_; rintro e w' ⟨rfl, rfl⟩)
  all_goals
    go_end0
    rw [IntKind.wrap_u32]
    exact pair_fin hA1 ⟨h4, h5⟩ hA.out g1.out k1
def dgNum (p : Int × Int) (n : Int) : Nat → Int × Int
  | 0 => p
  | k + 1 => dgTake (dgNum p n k) (n / 2 ^ (8 * k) % 256)
set_option maxHeartbeats 1000000 in
theorem pair_number (w : World) (bp : Nat) (p : Int × Int) (n : Int) (hn : 0 ≤ n ∧ n < 9223372036854775808) (h : PairAt w bp p) :
    Calls Try.prog 41 #[.pointer (some ⟨bp, 0, none⟩), .int .i64 n] w (RetPair bp (dgNum p n 8) w) := by
  have hbp : bp < w.heap.size := lt_of_get h.at_
  replace h := Lib.hid h
  go_enter Try.func41, Try.ntmps41
  go_wp2
  go_loopw [4, 5] (fun _ i W => ∃ k : Nat, k ≤ 8 ∧ i = .int .i64 k ∧ Keeps (fun b => b = bp) w W ∧ PairAt W bp (dgNum p n k)) (fun _ i _ => 8 - (intOf i).toNat)
  case atStart => exact ⟨0, by omega, rfl, Keeps.refl _ _, h.out⟩
  case round =>
    obtain ⟨k, hk, rfl, hK, hP⟩ := hrel
    by_cases h8 : k < 8
    · have hlt := lt_of_get hP.at_
      replace hP := Lib.hid hP
      go_wp2_with fail
      refine (pair_take wr bp _ _ (by omega) hP.out).mono ?_
      rintro e W1 ⟨rfl, hK1, hP1⟩
      go_wp2
      go_roundw
      case rel => exact ⟨k + 1, by omega, by go_num, hK.trans hK1 (fun _ _ h => h), hP1⟩
      case measure => simp [intOf]; omega
    · obtain rfl : k = 8 := by omega
      go_wp2
      go_end0
      exact ⟨rfl, hK, hP⟩
def dgEnd (p : Int × Int) : Int := (p.1 * 4294967296 + p.2) % 4611686018427387904
theorem wraps_u64 (n : Int) (h₀ : 0 ≤ n) (h₁ : n < 2 ^ 64) : IntKind.u64.wrap n = n := by simp [IntKind.wrap, IntKind.bits, IntKind.signed]; omega
theorem dgEnd_bits (a b : Int) (ha : 0 ≤ a ∧ a < 4294967296) (hb : 0 ≤ b ∧ b < 4294967296) :
    bits .or .u64 (a * 4294967296) b = a * 4294967296 + b ∧ bits .and .u64 (a * 4294967296 + b) 4611686018427387903 = dgEnd (a, b) := by
  constructor
  · exact bits_join .u64 64 (by decide) wraps_u64 32 _ _ (by omega) (by omega) (by omega) (by omega) (by omega) (by omega)
  · exact bits_mask .u64 64 (by decide) wraps_u64 62 (by decide) (a * 4294967296 + b) (by omega) (by omega)
theorem dgNum_range (n : Int) : ∀ (k : Nat) (p : Int × Int), (0 ≤ p.1 ∧ p.1 < 4294967296) ∧ (0 ≤ p.2 ∧ p.2 < 4294967296) → (0 ≤ (dgNum p n k).1 ∧ (dgNum p n k).1 < 4294967296) ∧ (0 ≤ (dgNum p n k).2 ∧ (dgNum p n k).2 < 4294967296)
  | 0, p, h => h
  | k + 1, p, h => by
    have := dgNum_range n k p h
    simp only [dgNum, dgTake]
    exact ⟨by omega, rot7_range _ (by omega) (by omega)⟩
def RetEnd (bp : Nat) (n : Int) (w : World) : Ending → World → Prop := fun e w' => e = .returned (.int .i64 n) ∧ Keeps (fun b => b = bp) w w'
set_option maxHeartbeats 1000000 in
theorem pair_end (w : World) (bp : Nat) (p : Int × Int) (n : Int) (hn : 0 ≤ n ∧ n < 9223372036854775808) (h : PairAt w bp p) :
    Calls Try.prog 38 #[.pointer (some ⟨bp, 0, none⟩), .int .i64 n] w (RetEnd bp (dgEnd (dgNum p n 8)) w) := by
  go_enter Try.func38, Try.ntmps38
  go_wp2_with fail
  refine (pair_number w bp p n hn h).mono ?_
  rintro e W ⟨rfl, hK, hP⟩
  obtain ⟨h1, h2, h3⟩ := hP
  generalize dgNum p n 8 = q at *
  obtain ⟨a, b⟩ := q
  simp only at *
  have c0 := cell_of_get h1 (o := 0) rfl
  have c1 := cell_of_get h1 (o := 1) rfl
  obtain ⟨e1, e2⟩ := dgEnd_bits a b h2 h3
  have e3 : 0 ≤ dgEnd (a, b) ∧ dgEnd (a, b) < 4611686018427387904 := by unfold dgEnd; omega
  generalize dgEnd (a, b) = r at *
  go_wp2
  go_quiet (fail)
  go_wp2
  go_ret
  exact ⟨by rfl, hK.drewN _⟩
def dgAll (p : Int × Int) : List UInt8 → Int × Int
  | [] => p
  | c :: l => dgAll (dgTake p c.toNat) l
theorem dgAll_snoc (l : List UInt8) : ∀ (p : Int × Int) (c : UInt8), dgAll p (l ++ [c]) = dgTake (dgAll p l) c.toNat := by
  induction l with
  | nil => intro p c; rfl
  | cons a l ih => intro p c; simp [dgAll, ih]
def digOf (l : List UInt8) : Int := dgEnd (dgNum (dgAll (1, 40389) l) l.length 8)
theorem digOf_range (l : List UInt8) : 0 ≤ digOf l ∧ digOf l < 4611686018427387904 := by unfold digOf dgEnd; omega
set_option maxHeartbeats 1000000 in
theorem digest_of (w : World) (F : Nat → Prop) (v : Value) (xs : List UInt8) (hr : Row encB w F v xs) (hF : ∀ b, F b → b < w.heap.size) :
    Calls Try.prog 32 #[v] w fun e w' => e = .returned (.int .i64 (digOf xs)) ∧ Below w.heap.size w w' := by
  obtain ⟨A, c, rfl, hc1, hc2⟩ := hr.shape
  have hn : xs.length ≤ 9223372036854775807 := by simp only [maxLen] at hc2; omega
  simp only [maxLen] at hc2
  replace hr := Lib.hid hr
  replace hF := Lib.hid hF
  go_enter Try.func32, Try.ntmps32
  go_wp2
  obtain ⟨W0, hW0⟩ : ∃ W0, w.alloc (.cells #[.int .u32 1, .int .u32 40389] 75) = W0 := ⟨_, rfl⟩
  rw [hW0]
  have hP0 : PairAt W0 w.heap.size (1, 40389) := ⟨by rw [← hW0]; exact heap_alloc_new w _, by decide, by decide⟩
  have hB0 : Below w.heap.size w W0 := by rw [← hW0]; exact (Below.refl _ w).alloc (Nat.le_refl _) _
  replace hW0 := Lib.hid hW0
  go_loopw [5, 10] (fun _ i W => ∃ k : Nat, k ≤ xs.length ∧ i = .int .i64 k ∧ Below w.heap.size w W ∧ PairAt W w.heap.size (dgAll (1, 40389) (xs.take k))) (fun _ i _ => xs.length - (intOf i).toNat)
  case atStart => exact ⟨0, by omega, rfl, hB0, hP0⟩
  case round =>
    obtain ⟨k, hk, rfl, hK, hP⟩ := hrel
    by_cases hlt : k < xs.length
    · obtain ⟨x, hxk⟩ := get_some_of_lt hlt
      obtain ⟨b, o, rfl, _, hck⟩ := ((hr.out).belowB hK hF.out).at hxk
      simp only [encB] at hck
      have hx1 := x.toNat_lt
      have hbp := lt_of_get hP.at_
      replace hxk := Lib.hid hxk
      replace hP := Lib.hid hP
      go_wp2_with fail
      refine (pair_take wr _ _ _ (by omega) hP.out).mono ?_
      rintro e W1 ⟨rfl, hK1, hP1⟩
      go_wp2
      go_roundw
      case rel => exact ⟨k + 1, by omega, by go_num, hK.trans (hK1.belowB (by omega) (by intro b hb; omega)), by rw [take_snoc_get hxk.out, dgAll_snoc]; exact hP1⟩
      case measure => simp [intOf]; omega
    · obtain rfl : k = xs.length := by omega
      have e : xs.take xs.length = xs := List.take_of_length_le (by omega)
      rw [e] at hP
      have hbp := lt_of_get hP.at_
      replace hP := Lib.hid hP
      go_wp2_with fail
      refine (pair_end wr _ _ _ (by omega) hP.out).mono ?_
      rintro e W1 ⟨rfl, hK1⟩
      go_wp2
      go_ret
      exact ⟨rfl, hK.trans (hK1.belowB (by omega) (by intro b hb; omega))⟩
end Go.Proofs.Ytbgkohfifcfofaa
