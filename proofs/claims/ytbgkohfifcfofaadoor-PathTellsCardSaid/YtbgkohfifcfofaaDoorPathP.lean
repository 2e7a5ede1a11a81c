/- The walks of path.Put, Pen.Bytes and regencyref08.Put. -/
import Derived.Test.YtbgkohfifcfofaaDoorPenW
import Derived.Test.YtbgkohfifcfofaaDoorClI
import Derived.Test.YtbgkohfifcfofaaDoorRef3N
set_option linter.unusedVariables false
set_option linter.unusedSimpArgs false
set_option maxRecDepth 100000
open Go.RowKit
namespace Go.Proofs.YtbgkohfifcfofaaDoor
open Go.Proofs
/-- What a number writes; and numbers. -/
def inN (n : Int) : Bool := decide (0 ≤ n) && decide (n ≤ 4611686018427387903)
def putN (n : Int) : List UInt8 := if inN n then numB n.toNat else []
def putL : List Int → List UInt8
  | [] => []
  | n :: l => putN n ++ putL l
def putB (p : List Int) : List UInt8 := numB p.length ++ putL p
theorem putN_len (n : Int) : (putN n).length ≤ 9 := by
  unfold putN
  split
  · rename_i h
    simp [inN] at h
    exact numB_len9 _ (by omega)
  · simp
theorem putL_append (l m : List Int) : putL (l ++ m) = putL l ++ putL m := by
  induction l with
  | nil => rfl
  | cons n l ih => simp [putL, ih]
theorem putL_len (l : List Int) : (putL l).length ≤ 9 * l.length := by
  induction l with
  | nil => simp [putL]
  | cons n l ih => have := putN_len n; simp only [putL, List.length_append, List.length_cons]; omega
theorem putL_snoc {xs : List Int} {k : Nat} {x : Int} (h : xs[k]? = some x) : putL (xs.take (k + 1)) = putL (xs.take k) ++ putN x := by
  rw [take_snoc_get h, putL_append]; simp [putL]
/-- A result that is not said, and a pen. -/
def RetPA (base bp : Nat) (l : List UInt8) (w : World) : Ending → World → Prop := fun en w' => ∃ v, en = .returned v ∧ Below base w w' ∧ PenAt base w' bp l
theorem pen_number_bad (w : World) (bp : Nat) (n : Int) (h : inN n = false) :
    Calls Tryd.prog 41 #[.pointer (some ⟨bp, 0, none⟩), .int .i64 n] w fun e w' => e = .returned (.bool false) ∧ w = w' := by
  simp only [inN, Bool.and_eq_false_iff, decide_eq_false_iff_not, Int.not_le] at h
  by_cases h0 : n < 0
  · go_enter Tryd.func41, Tryd.ntmps41
    go_wp2
    go_ret
    exact ⟨rfl, rfl⟩
  · have h1 : 4611686018427387903 < n := by omega
    go_enter Tryd.func41, Tryd.ntmps41
    go_wp2
    go_ret
    exact ⟨rfl, rfl⟩
theorem pen_number_any (w : World) (base bp : Nat) (l : List UInt8) (n : Int) (h : PenAt base w bp l) (hl : l.length ≤ 100000000000) :
    Calls Tryd.prog 41 #[.pointer (some ⟨bp, 0, none⟩), .int .i64 n] w (RetPA base bp (l ++ putN n) w) := by
  by_cases hn : inN n = true
  · have hn' := hn
    simp [inN] at hn'
    refine (pen_number w base bp l n n.toNat (by omega) (by omega) h hl).mono ?_
    rintro e w1 ⟨rfl, h1, h2⟩
    exact ⟨_, rfl, h1, by unfold putN; rw [hn]; exact h2⟩
  · have hn : inN n = false := by simpa using hn
    refine (pen_number_bad w bp n hn).mono ?_
    rintro e w1 ⟨rfl, rfl⟩
    exact ⟨_, rfl, Below.refl _ _, by unfold putN; rw [hn]; simpa using h⟩
set_option maxHeartbeats 1000000 in
theorem path_put (w : World) (base bp : Nat) (l : List UInt8) (F : Nat → Prop) (v : Value) (p : List Int) (h : PenAt base w bp l) (hl : l.length ≤ 1000000) (hp : Row encI w F v p) (hF : ∀ b, F b → b < base) (hpl : p.length ≤ 1000) :
    Calls Tryd.prog 20 #[.pointer (some ⟨bp, 0, none⟩), v] w (RetPA base bp (l ++ putB p) w) := by
  obtain ⟨A, c, rfl, hc1, hc2⟩ := hp.shape
  simp only [maxLen] at hc2
  have h9 := numB_len9 p.length (by omega)
  generalize hq : l ++ putB p = q
  replace hq := Lib.hid hq
  go_enter Tryd.func20, Tryd.ntmps20
  go_wp2_with fail
  refine (pen_number _ base _ _ _ p.length rfl (by omega) h (by omega)).mono ?_
  rintro e w1 ⟨rfl, hb1, hp1⟩
  replace hb1 := Lib.hid hb1
  replace h9 := Lib.hid h9
  go_wp2_with fail
  go_loopw [12] (fun i wr => ∃ k : Nat, k ≤ p.length ∧ i = .int .i64 k ∧ Below base w wr ∧ PenAt base wr bp (l ++ numB p.length ++ putL (p.take k))) (fun i _ => p.length - (intOf i).toNat)
  case atStart => exact ⟨0, Nat.zero_le _, rfl, hb1.out, by simpa [putL] using hp1⟩
  case round =>
    obtain ⟨k, hk, rfl, hb, hpk⟩ := hrel
    by_cases hlt : k < p.length
    · obtain ⟨x, hxk⟩ := get_some_of_lt hlt
      obtain ⟨b, o, rfl, _, hck⟩ := (hp.belowB hb hF).at hxk
      simp only [encI] at hck
      have hlen : (l ++ numB p.length ++ putL (p.take k)).length ≤ 100000000000 := by
        have h1 := putL_len (p.take k)
        have h2 := List.length_take_le k p
        have h3 := h9.out
        simp only [List.length_append]
        omega
      replace hxk := Lib.hid hxk
      replace hb := Lib.hid hb
      go_wp2_with fail
      refine (pen_number_any _ base _ _ _ hpk hlen).mono ?_
      rintro e w2 ⟨v2, rfl, hb2, hp2⟩
      replace hb2 := Lib.hid hb2
      go_wp2
      go_roundw
      case rel => exact ⟨k + 1, by omega, by go_num, hb.out.trans hb2.out, by rw [putL_snoc hxk.out, ← List.append_assoc]; exact hp2⟩
      case measure => simp [intOf]; omega
    · have hkn : k = p.length := by omega
      subst hkn
      go_wp2
      go_end0
      refine ⟨_, rfl, hb, ?_⟩
      rw [← hq.out]
      unfold putB
      rw [List.take_of_length_le (Nat.le_refl _), List.append_assoc] at hpk
      exact hpk
theorem pen_bytes (w : World) (base bp : Nat) (l : List UInt8) (h : PenAt base w bp l) (hl : l.length ≤ 100000000000) :
    Calls Tryd.prog 21 #[.pointer (some ⟨bp, 0, none⟩)] w (RetOwn encB 5 l w) := by
  obtain ⟨v, hb, ho⟩ := h.at_
  have hc0 := cell_of_get hb (o := 0) rfl
  obtain ⟨A, n, c, rfl⟩ := ho.row.shp
  replace hb := Lib.hid hb
  go_enter Tryd.func21, Tryd.ntmps21
  go_wp2_with fail
  refine (clone_B _ _ _ _ ho.row (by omega)).mono ?_
  rintro e w1 ⟨v1, rfl, hb1, ho1⟩
  obtain ⟨A1, n1, c1, rfl⟩ := ho1.row.shp
  replace hb1 := Lib.hid hb1
  replace ho1 := Lib.hid ho1
  go_wp2
  go_ret
  exact ⟨_, rfl, hb1.out, ho1.out⟩
set_option maxHeartbeats 1000000 in
theorem ref8_put (w : World) (F : Nat → Prop) (v : Value) (p : List Int) (hp : Row encI w F v p) (hpl : p.length ≤ 1000) :
    Calls Tryd.prog 22 #[v] w (RetB (.string ⟨(putB p).toArray⟩) w) := by
  obtain ⟨A, c, rfl, hc1, hc2⟩ := hp.shape
  simp only [maxLen] at hc2
  have h9 := numB_len9 p.length (by omega)
  generalize hq : putB p = q
  replace hq := Lib.hid hq
  go_enter Tryd.func22, Tryd.ntmps22
  go_wp2_with fail
  refine (ref3_number (p.length + 1) p.length _ _ rfl (by omega) (by omega)).mono ?_
  rintro e w1 ⟨rfl, hb1⟩
  replace hb1 := Lib.hid hb1
  replace h9 := Lib.hid h9
  go_wp2_with fail
  go_loopw [3, 11] (fun s i wr => ∃ k : Nat, k ≤ p.length ∧ i = .int .i64 k ∧ s = .string ⟨(numB p.length ++ putL (p.take k)).toArray⟩ ∧ Below w.heap.size w wr) (fun _ i _ => p.length - (intOf i).toNat)
  case atStart => exact ⟨0, Nat.zero_le _, rfl, by simp [putL], hb1.out⟩
  case round =>
    obtain ⟨k, hk, rfl, rfl, hb⟩ := hrel
    by_cases hlt : k < p.length
    · obtain ⟨x, hxk⟩ := get_some_of_lt hlt
      obtain ⟨b, o, rfl, _, hck⟩ := (hp.below hb).at hxk
      simp only [encI] at hck
      replace hb := Lib.hid hb
      by_cases hin : inN x = true
      · have hin' := hin
        simp [inN] at hin'
        have hadd := str_add (P := Tryd.prog) (numB p.length ++ putL (p.take k)) (numB x.toNat) (by
          have h1 := putL_len (p.take k)
          have h2 := List.length_take_le k p
          have h3 := h9.out
          have h4 := numB_len9 x.toNat (by omega)
          simp only [List.length_append]
          omega)
        have hnext : numB p.length ++ putL (p.take k) ++ numB x.toNat = numB p.length ++ putL (p.take (k + 1)) := by
          rw [putL_snoc hxk, List.append_assoc]; unfold putN; rw [hin]; rfl
        rw [hnext] at hadd
        generalize hs0 : numB p.length ++ putL (p.take k) = s0 at *
        generalize hs1 : numB p.length ++ putL (p.take (k + 1)) = s1 at *
        generalize hs2 : numB x.toNat = s2 at *
        replace hnext := Lib.hid hnext
        replace hxk := Lib.hid hxk; replace hs0 := Lib.hid hs0; replace hs1 := Lib.hid hs1; replace hs2 := Lib.hid hs2
        go_wp2_with fail
        refine (ref3_number (x.toNat + 1) x.toNat _ _ (by omega) (by omega) (by omega)).mono ?_
        rintro e w2 ⟨rfl, hb2⟩
        rw [hs2.out]
        replace hb2 := Lib.hid hb2
        go_wp2
        go_roundw
        case rel => exact ⟨k + 1, by omega, by go_num, by rw [hs1.out], Below.step hb.out hb2.out⟩
        case measure => simp [intOf]; omega
      · have hin : inN x = false := by simpa using hin
        have hnext : numB p.length ++ putL (p.take (k + 1)) = numB p.length ++ putL (p.take k) := by
          rw [putL_snoc hxk]; unfold putN; rw [hin]; simp
        simp only [inN, Bool.and_eq_false_iff, decide_eq_false_iff_not, Int.not_le] at hin
        replace hnext := Lib.hid hnext
        replace hxk := Lib.hid hxk
        by_cases h0 : x < 0
        · go_wp2
          go_roundw
          case rel => exact ⟨k + 1, by omega, by go_num, by rw [hnext.out], hb.out⟩
          case measure => simp [intOf]; omega
        · have h1 : 4611686018427387903 < x := by omega
          go_wp2
          go_roundw
          case rel => exact ⟨k + 1, by omega, by go_num, by rw [hnext.out], hb.out⟩
          case measure => simp [intOf]; omega
    · have hkn : k = p.length := by omega
      subst hkn
      go_wp2
      go_ret
      refine ⟨?_, hb⟩
      rw [← hq.out]
      unfold putB
      rw [List.take_of_length_le (Nat.le_refl _)]
      rfl
end Go.Proofs.YtbgkohfifcfofaaDoor
