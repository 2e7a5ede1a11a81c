/- The walk of regencyref01.num: it is Lib.itoa. -/
import Derived.Test.YtbgkohfifcfofaaDoorProg
import Derived.Test.YtbgkohfifcfofaaDoorBase
import Derived.Lib.ItoaNum
import Derived.Lib.ItoaLen
import Derived.Deep.RegionWith
import Derived.IntWalk
import Derived.Laws.BitsLemmas
set_option linter.unusedVariables false
set_option linter.unusedSimpArgs false
set_option maxRecDepth 100000
open Go.RowKit
namespace Go.Proofs.YtbgkohfifcfofaaDoor
open Go.Proofs
theorem dig_fin : ∀ k : Fin 10, (⟨#[48, 49, 50, 51, 52, 53, 54, 55, 56, 57]⟩ : ByteArray).extract k.val (k.val + 1) = ⟨[UInt8.ofNat (48 + k.val)].toArray⟩ := by decide +kernel
theorem dig (a b k : Nat) (hk : k < 10) (ha : a = k) (hb : b = k + 1) : (⟨#[48, 49, 50, 51, 52, 53, 54, 55, 56, 57]⟩ : ByteArray).extract a b = ⟨[UInt8.ofNat (48 + k)].toArray⟩ := by
  subst ha hb
  exact dig_fin ⟨_, hk⟩
theorem dec_one {u : Nat} (h : u < 10) : Lib.decDigits u = [UInt8.ofNat (48 + u)] := Lib.decDigits_one h
theorem dec_step {u : Nat} (h : ¬ u < 10) : Lib.decDigits u = Lib.decDigits (u / 10) ++ [UInt8.ofNat (48 + u % 10)] := by rw [Lib.decDigits, dif_neg h]
theorem itoa_nn (k : Nat) : Lib.itoa (k : Int) = Lib.decDigits k := by unfold Lib.itoa; rw [if_neg (by omega)]; simp
theorem itoa_ng (k : Nat) (h : 1 ≤ k) : Lib.itoa (-(k : Int)) = 45 :: Lib.decDigits k := by unfold Lib.itoa; rw [if_pos (by omega)]; simp
theorem bytes_app (x y : List UInt8) : (⟨x.toArray⟩ : ByteArray) ++ ⟨y.toArray⟩ = ⟨(x ++ y).toArray⟩ := by
  apply ByteArray.ext
  simp
set_option maxHeartbeats 1000000 in
theorem ref1_num_nn (k : Nat) (w : World) (hk : k ≤ 9223372036854775807) :
    Calls Tryd.prog 54 #[.int .i64 (k : Int)] w fun e w' => e = .returned (.string ⟨(Lib.itoa (k : Int)).toArray⟩) ∧ w = w' := by
  have hlen := Lib.itoa_length_le (k : Int) (by omega) (by omega)
  rw [itoa_nn] at hlen ⊢
  generalize hdk : Lib.decDigits k = dk at *
  replace hdk := Lib.hid hdk
  go_enter Tryd.func54, Tryd.ntmps54
  go_wp2
  go_loop [0, 4] (fun n s => ∃ (q : Nat) (l : List UInt8), n = .int .i64 (q : Int) ∧ q ≤ k ∧ s = .string ⟨l.toArray⟩ ∧ Hid (dk = Lib.decDigits q ++ l)) (fun n _ => (intOf n).toNat)
  case atStart => exact ⟨k, [], rfl, Nat.le_refl _, rfl, Lib.hid (by simpa using hdk.out.symm)⟩
  case round =>
    obtain ⟨q, l, rfl, hq, rfl, hd⟩ := hrel
    have hll : l.length ≤ 21 := by have := congrArg List.length hd.out; rw [List.length_append] at this; omega
    by_cases h10 : q < 10
    · have hone := dec_one h10
      have hx : (⟨#[48, 49, 50, 51, 52, 53, 54, 55, 56, 57]⟩ : ByteArray).extract q (q + 1) = ⟨[UInt8.ofNat (48 + q)].toArray⟩ := dig _ _ q h10 rfl rfl
      generalize UInt8.ofNat (48 + q) = x at *
      have hadd := str_add (P := Tryd.prog) [x] l (by simp; omega)
      replace hone := Lib.hid hone
      go_wp2
      go_ret
      refine ⟨?_, rfl⟩
      rw [hd.out, hone.out, ← bytes_app]
      rfl
    · have hst := dec_step h10
      have hx : (⟨#[48, 49, 50, 51, 52, 53, 54, 55, 56, 57]⟩ : ByteArray).extract (q % 10) (q % 10 + 1) = ⟨[UInt8.ofNat (48 + q % 10)].toArray⟩ := dig _ _ (q % 10) (by omega) rfl rfl
      generalize UInt8.ofNat (48 + q % 10) = x at *
      have hadd := str_add (P := Tryd.prog) [x] l (by simp; omega)
      have e1 : (q : Int).tmod 10 = (q : Int) % 10 := Int.tmod_eq_emod_of_nonneg (by omega)
      replace hst := Lib.hid hst
      go_wp2
      go_round
      case rel =>
        refine ⟨q / 10, x :: l, by go_num, by omega, by rw [show x :: l = [x] ++ l from rfl, ← bytes_app], Lib.hid ?_⟩
        rw [hd.out, hst.out, List.append_assoc]; rfl
      case measure => simp [intOf]; omega
set_option maxHeartbeats 1000000 in
theorem ref1_num_ng (k : Nat) (w : World) (h0 : 1 ≤ k) (hk : k ≤ 9223372036854775808) :
    Calls Tryd.prog 54 #[.int .i64 (-(k : Int))] w fun e w' => e = .returned (.string ⟨(Lib.itoa (-(k : Int))).toArray⟩) ∧ w = w' := by
  have hlen := Lib.itoa_length_le (-(k : Int)) (by omega) (by omega)
  rw [itoa_ng k h0] at hlen ⊢
  generalize hdk : Lib.decDigits k = dk at *
  replace hdk := Lib.hid hdk
  go_enter Tryd.func54, Tryd.ntmps54
  go_wp2
  go_loop [0, 3] (fun n s => ∃ (q : Nat) (l : List UInt8), n = .int .i64 (-(q : Int)) ∧ q ≤ k ∧ 1 ≤ q ∧ s = .string ⟨l.toArray⟩ ∧ Hid (dk = Lib.decDigits q ++ l)) (fun n _ => (-(intOf n)).toNat)
  case atStart => exact ⟨k, [], rfl, Nat.le_refl _, h0, rfl, Lib.hid (by simpa using hdk.out.symm)⟩
  case round =>
    obtain ⟨q, l, rfl, hq, hq1, rfl, hd⟩ := hrel
    have hll : l.length ≤ 21 := by have := congrArg List.length hd.out; rw [List.length_append] at this; simp at hlen; omega
    by_cases h10 : q < 10
    · have hone := dec_one h10
      have hx : (⟨#[48, 49, 50, 51, 52, 53, 54, 55, 56, 57]⟩ : ByteArray).extract q (q + 1) = ⟨[UInt8.ofNat (48 + q)].toArray⟩ := dig _ _ q h10 rfl rfl
      generalize UInt8.ofNat (48 + q) = x at *
      have hadd := str_add (P := Tryd.prog) [45, x] l (by simp; omega)
      have hadd0 := str_add (P := Tryd.prog) [45] [x] (by simp)
      replace hone := Lib.hid hone
      go_wp2
      go_ret
      refine ⟨?_, rfl⟩
      rw [hd.out, hone.out, show (45 : UInt8) :: ([x] ++ l) = [45, x] ++ l from rfl, ← bytes_app]
      rfl
    · have hst := dec_step h10
      have hx : (⟨#[48, 49, 50, 51, 52, 53, 54, 55, 56, 57]⟩ : ByteArray).extract (q % 10) (q % 10 + 1) = ⟨[UInt8.ofNat (48 + q % 10)].toArray⟩ := dig _ _ (q % 10) (by omega) rfl rfl
      generalize UInt8.ofNat (48 + q % 10) = x at *
      have hadd := str_add (P := Tryd.prog) [x] l (by simp; omega)
      have e1 : (-(q : Int)).tmod 10 = -((q : Int) % 10) := by rw [Int.neg_tmod, Int.tmod_eq_emod_of_nonneg (by omega)]
      have e2 : (-(q : Int)).tdiv 10 = -((q : Int) / 10) := by rw [Int.neg_tdiv, Int.tdiv_eq_ediv_of_nonneg (by omega)]
      replace hst := Lib.hid hst
      go_wp2
      go_round
      case rel =>
        refine ⟨q / 10, x :: l, by go_num, by omega, by omega, rfl, Lib.hid ?_⟩
        rw [hd.out, hst.out, List.append_assoc]; rfl
      case measure => simp [intOf]; omega
def I64 (n : Int) : Prop := -9223372036854775808 ≤ n ∧ n ≤ 9223372036854775807
theorem ref1_num (n : Int) (w : World) (h : I64 n) :
    Calls Tryd.prog 54 #[.int .i64 n] w fun e w' => e = .returned (.string ⟨(Lib.itoa n).toArray⟩) ∧ w = w' := by
  obtain ⟨h1, h2⟩ := h
  by_cases h0 : 0 ≤ n
  · obtain ⟨k, rfl⟩ := Int.eq_ofNat_of_zero_le h0
    exact ref1_num_nn k w (by omega)
  · obtain ⟨k, hk⟩ := Int.eq_ofNat_of_zero_le (show 0 ≤ -n by omega)
    obtain rfl : n = -(k : Int) := by omega
    exact ref1_num_ng k w (by omega) (by omega)
theorem ref1_Num (n : Int) (w : World) (h : I64 n) :
    Calls Tryd.prog 38 #[.int .i64 n] w fun e w' => e = .returned (.string ⟨(Lib.itoa n).toArray⟩) ∧ w = w' := by
  generalize hl : Lib.itoa n = l
  replace hl := Lib.hid hl
  go_enter Tryd.func38, Tryd.ntmps38
  go_wp2_with fail
  refine (ref1_num n _ h).mono ?_
  rintro e w1 ⟨rfl, rfl⟩
  rw [hl.out]
  go_wp2
  go_ret
  exact ⟨rfl, rfl⟩
end Go.Proofs.YtbgkohfifcfofaaDoor
