/- The walks of the functions of package crc, of the slices' functions that they call, and of the law CrcTold. -/
import Derived.Test.YtbgkohfifcfofaaProg
import Derived.Test.YtbgkohfifcfofaaBase
import Derived.Test.YtbgkohfifcfofaaCrcP
import Derived.Laws.BitsLemmas
set_option linter.unusedVariables false
set_option linter.unusedSimpArgs false
open Go.RowKit
namespace Go.Proofs.Ytbgkohfifcfofaa
open Go.Proofs

/-- one bit -/
def crcBit (r : Int) : Int := bits .xor .u32 (r / 2) (IntKind.u32.wrap (3988292384 * (bits .and .u32 r 1)))
def crcBits : Nat → Int → Int
  | 0, r => r
  | k + 1, r => crcBit (crcBits k r)
def crcByte (r : Int) (c : UInt8) : Int := crcBits 8 (bits .xor .u32 r (c.toNat : Int))
def crcReg (r : Int) : List UInt8 → Int
  | [] => r
  | c :: l => crcReg (crcByte r c) l
theorem crcReg_snoc (l : List UInt8) : ∀ (r : Int) (c : UInt8), crcReg r (l ++ [c]) = crcByte (crcReg r l) c := by
  induction l with
  | nil => intro r c; rfl
  | cons a l ih => intro r c; simp [crcReg, ih]
def crcNot (r : Int) : Int := bits .xor .u32 IntKind.u32.max r
def crcOf (l : List UInt8) : Int := crcNot (crcReg (crcNot 0) l)
theorem take_snoc_get {α : Type} {xs : List α} {k : Nat} {x : α} (h : xs[k]? = some x) : xs.take (k + 1) = xs.take k ++ [x] := by
  rw [List.take_add_one, h]; rfl
theorem get_some_of_lt {α : Type} {xs : List α} {k : Nat} (h : k < xs.length) : ∃ x, xs[k]? = some x := ⟨_, List.getElem?_eq_getElem h⟩

theorem sum_value (a : Addr) (n : Int) (w : World) (hc : w.cell? a = some (.int .u32 n)) :
    Calls Try.prog 35 #[.pointer (some a)] w fun e w' => e = .returned (.int .u32 n) ∧ w = w' := by
  go_enter Try.func35, Try.ntmps35
  go_wp2
  go_ret
  simp

set_option maxHeartbeats 400000 in
theorem sum_add (a : Addr) (t : Int) (w : World) (F : Nat → Prop) (v : Value) (xs : List UInt8) (hc : w.cell? a = some (.int .u32 t)) (hf : w.frozen? a = false)
   (hr : Row encB w F v xs) :
    Calls Try.prog 34 #[.pointer (some a), v] w fun e w' => e = .returned (.tuple #[]) ∧ w' = w.setCell a (.int .u32 (crcNot (crcReg (crcNot t) xs))) := by
  obtain ⟨A, c, rfl, hc1, hc2⟩ := hr.shape
  have hn : xs.length ≤ 9223372036854775807 := by simp only [maxLen] at hc2; omega
  replace hr := Lib.hid hr
  go_enter Try.func34, Try.ntmps34
  go_wp2
  go_loop [4, 17] (fun r i => ∃ k : Nat, k ≤ xs.length ∧ i = .int .i64 k ∧ r = .int .u32 (crcReg (crcNot t) (xs.take k))) (fun _ i => xs.length - (intOf i).toNat)
  case atStart => exact ⟨0, Nat.zero_le _, rfl, rfl⟩
  case round =>
    obtain ⟨k, hk, rfl, rfl⟩ := hrel
    by_cases hlt : k < xs.length
    · obtain ⟨x, hxk⟩ := get_some_of_lt hlt
      obtain ⟨b, o, rfl, _, hck⟩ := hr.out.at hxk
      simp only [encB] at hck
      have hx1 := x.toNat_lt
      replace hxk := Lib.hid hxk
      clear hr
      generalize hr0 : crcReg (crcNot t) (List.take k xs) = r0
      replace hr0 := Lib.hid hr0
      have hw : ((x.toNat : Int) % 4294967296) = x.toNat := by omega
      go_wp2
      go_loop [4, 25] (fun r i => ∃ m : Nat, m ≤ 8 ∧ i = .int .i64 m ∧ r = .int .u32 (crcBits m (bits .xor .u32 r0 x.toNat))) (fun _ i => 8 - (intOf i).toNat)
      case atStart => exact ⟨0, by omega, rfl, rfl⟩
      case round =>
        obtain ⟨m, hm, rfl, rfl⟩ := hrel
        by_cases h8 : m < 8
        · go_wp2
          go_round
          case rel => exact ⟨m + 1, by omega, by go_num, rfl⟩
          case measure => simp [intOf]; omega
        · have : m = 8 := by omega
          subst this
          go_wp2
          go_round
          case rel => exact ⟨k + 1, by omega, by go_num, by rw [take_snoc_get hxk.out, crcReg_snoc, hr0.out]; rfl⟩
          case measure => simp [intOf]; omega
    · have : k = xs.length := by omega
      subst this
      have e : xs.take xs.length = xs := List.take_of_length_le (by omega)
      rw [e]
      go_wp2
      go_end0
      exact ⟨rfl, rfl⟩

/-- What only computes a number. -/
def RetB (v : Value) (w : World) : Ending → World → Prop := fun e w' => e = .returned v ∧ Below w.heap.size w w'
theorem crc_of (w : World) (F : Nat → Prop) (v : Value) (xs : List UInt8) (hr : Row encB w F v xs) :
    Calls Try.prog 21 #[v] w (RetB (.int .u32 (crcOf xs)) w) := by
  go_enter Try.func21, Try.ntmps21
  go_wp2_with (first
    | (go_at_call 34; refine (sum_add _ 0 _ F v xs (cell_of_get (heap_alloc_new w _) rfl) (free_of_get (heap_alloc_new w _)) (hr.below ((Below.refl _ w).alloc (Nat.le_refl _) _))).mono ?_; rintro e w' ⟨rfl, rfl⟩)
    | (go_at_call 35; refine (sum_value _ (crcOf xs) _ (by simp [crcOf])).mono ?_; rintro e w' ⟨rfl, rfl⟩))
  go_ret
  exact ⟨rfl, (Below.refl _ w).alloc (Nat.le_refl _) _⟩

theorem elB : El Try.prog 22 5 (.int .u8 0) 1 := ⟨by kernel_rfl, by kernel_rfl, rfl, by omega⟩
/-- A result that is a row of one's own. -/
def RetOwn {α : Type} (enc : α → Value) (e : TypeId) (xs : List α) (w : World) : Ending → World → Prop := fun en w' => ∃ v, en = .returned v ∧ Below w.heap.size w w' ∧ Own enc e w' w.heap.size v xs
theorem nilq_B : ∀ (w : World) (A : Option Addr) (n c : Nat), (binOp .eql 22 (.slice A n c) (.slice none 0 0)).run Try.prog w = .ok (.bool A.isNone) w :=
  fun w A n c => Lib.run_eql_slice_nil w _ _ A n c 0 0 Try.underlying22
theorem clone_B (w : World) (F : Nat → Prop) (v : Value) (xs : List UInt8) (hr : Row encB w F v xs) (hl : xs.length ≤ 100000000000000) :
    Calls Try.prog 23 #[v] w (RetOwn encB 5 xs w) := by
  have hnil := nilq_B
  obtain ⟨A, c, rfl, hc1, hc2⟩ := hr.shape
  cases A with
  | none =>
    obtain rfl : xs = [] := by
      obtain ⟨_, _, he, _, _, h | ⟨b, o, h, _⟩⟩ := hr
      · exact h
      · cases he; cases h
    go_enter Try.func23, Try.ntmps23
    go_wp2
    go_ret
    exact ⟨_, rfl, Below.refl _ _, Own.nil _ _ _ _⟩
  | some a =>
    have hv := Own.empty encB 5 w w.heap.size (Nat.le_refl _)
    have hu := (hr.below ((Below.refl _ w).alloc (Nat.le_refl _) (.cells #[] 5))).src
    have hb : (([] : List UInt8).length + xs.length) * 1 ≤ 140737488355328 := by simp; omega
    have hw : w.heap.size ≤ (w.alloc (.cells #[] 5)).heap.size := by simp
    replace hv := Lib.hid hv; replace hu := Lib.hid hu; replace hb := Lib.hid hb; replace hw := Lib.hid hw
    go_enter Try.func23, Try.ntmps23
    go_wp2_with (at_builtin; go_must (refine wp_app_own (fun _ => rfl) elB elB.t (by simp) hv.out hu.out hb.out hw.out rfl _ _ rfl rfl rfl ?_); rintro v' w' ⟨hown, hk, _⟩)
    go_ret
    exact ⟨_, rfl, (((Keeps.refl NoB w).alloc _).trans hk (by intro b hb h; simp [Value.ownBlock] at h; omega)).below, hown⟩
theorem clip_B (w : World) (A : Option Addr) (n c : Nat) (h : n ≤ c) (hc : c ≤ maxLen) :
    Calls Try.prog 22 #[.slice A n c] w fun e w' => e = .returned (.slice A n n) ∧ w = w' := by
  simp only [maxLen] at hc
  go_enter Try.func22, Try.ntmps22
  go_wp2
  go_ret
  simp

/-- What reads memory in an order that is open. -/
def RetQ (v : Value) (w : World) : Ending → World → Prop := fun e w' => e = .returned v ∧ ∃ n, w' = w.drewN n
theorem RetQ.below {v : Value} {w : World} {e : Ending} {w' : World} (h : RetQ v w e w') : RetB v w e w' := by
  obtain ⟨h1, n, rfl⟩ := h
  exact ⟨h1, Below.drewN (Below.refl _ w) n⟩
set_option maxHeartbeats 400000 in
theorem equal_B (w : World) (F G : Nat → Prop) (v u : Value) (xs ys : List UInt8) (hx : Row encB w F v xs) (hy : Row encB w G u ys) :
    Calls Try.prog 24 #[v, u] w (RetB (.bool (xs == ys)) w) := by
  obtain ⟨A, c, rfl, hc1, hc2⟩ := hx.shape
  obtain ⟨B, d, rfl, hd1, hd2⟩ := hy.shape
  simp only [maxLen] at hc2 hd2
  by_cases hl : xs.length = ys.length
  · have hb : ((xs.length : Int) != (ys.length : Int)) = false := by simp [hl]
    replace hl := Lib.hid hl
    replace hx := Lib.hid hx
    replace hy := Lib.hid hy
    go_enter Try.func24, Try.ntmps24
    go_wp2
    go_loopw [5, 13] (fun _ i wr => ∃ k : Nat, k ≤ xs.length ∧ i = .int .i64 k ∧ xs.take k = ys.take k ∧ ∃ n, wr = w.drewN n) (fun _ i _ => xs.length - (intOf i).toNat)
    case atStart => exact ⟨0, Nat.zero_le _, rfl, rfl, 0, rfl⟩
    case round =>
      obtain ⟨k, hk, rfl, htk, q, rfl⟩ := hrel
      replace htk := Lib.hid htk
      by_cases hlt : k < xs.length
      · obtain ⟨x, hxk⟩ := get_some_of_lt hlt
        obtain ⟨y, hyk⟩ := get_some_of_lt (show k < ys.length by have := hl.out; omega)
        obtain ⟨b, o, rfl, _, hck⟩ := hx.out.at hxk
        obtain ⟨b', o', rfl, _, hck'⟩ := hy.out.at hyk
        simp only [encB] at hck hck'
        replace hxk := Lib.hid hxk
        replace hyk := Lib.hid hyk
        have hlt2 : k < ys.length := by have := hl.out; omega
        by_cases hxy : x = y
        · subst hxy
          go_wp2_with fail
          go_quiet (fail)
          go_wp2
          go_roundw
          case rel => exact ⟨k + 1, by omega, by go_num, by rw [take_snoc_get hxk.out, take_snoc_get hyk.out, htk.out], ⟨_, rfl⟩⟩
          case measure => simp [intOf]; omega
        · have hne : ((x.toNat : Int) != (y.toNat : Int)) = true := by
            simp only [bne_iff_ne, ne_eq]; intro h; exact hxy (UInt8.toNat_inj.1 (by omega))
          have hf : (xs == ys) = false := by
            simp only [beq_eq_false_iff_ne, ne_eq]; intro h; rw [h] at hxk; have := hxk.out.symm.trans hyk.out; cases this; exact hxy rfl
          replace hf := Lib.hid hf
          go_wp2_with fail
          go_quiet (fail)
          go_wp2
          go_ret
          exact ⟨by rw [hf.out]; rfl, ⟨rfl, rfl, rfl, Nat.le_refl _, fun _ _ => rfl⟩⟩
      · have : k = xs.length := by omega
        subst this
        have e : xs = ys := by
          have := htk.out
          rw [List.take_of_length_le (by omega), List.take_of_length_le (by have := hl.out; omega)] at this
          exact this
        replace e := Lib.hid e
        go_wp2
        go_ret
        exact ⟨by rw [e.out]; simp, Below.drewN (Below.refl _ w) _⟩
  · have hb : ((xs.length : Int) != (ys.length : Int)) = true := by simp only [bne_iff_ne, ne_eq]; omega
    have hf : (xs == ys) = false := by simp only [beq_eq_false_iff_ne, ne_eq]; intro h; exact hl (by rw [h])
    replace hf := Lib.hid hf
    go_enter Try.func24, Try.ntmps24
    go_wp2
    go_ret
    exact ⟨by rw [hf.out]; rfl, Below.refl _ w⟩
theorem crcNot_bd (r : Int) : 0 ≤ crcNot r ∧ crcNot r < 4294967296 := by
  unfold crcNot bits
  rw [IntKind.wrap_u32]
  omega
theorem crcOf_bd (l : List UInt8) : 0 ≤ crcOf l ∧ crcOf l < 4294967296 := crcNot_bd _
def byteOf (n : Int) : UInt8 := UInt8.ofNat (n % 256).toNat
theorem byteOf_val (n : Int) : ((byteOf n).toNat : Int) = n % 256 := by
  simp only [byteOf, UInt8.toNat_ofNat']
  omega
def crcTail (v : Int) : List UInt8 := [byteOf (v / 16777216), byteOf (v / 65536), byteOf (v / 256), byteOf v]
def sealOf (l : List UInt8) : List UInt8 := l ++ crcTail (crcOf l)
set_option maxHeartbeats 400000 in
theorem seal_any (w : World) (F : Nat → Prop) (v : Value) (xs : List UInt8) (hr : Row encB w F v xs) (hl : xs.length ≤ 1000000000000) :
    Calls Try.prog 6 #[v] w (RetOwn encB 5 (sealOf xs) w) := by
  obtain ⟨A, c, rfl, hc1, hc2⟩ := hr.shape
  generalize hv : crcOf xs = s at *
  obtain ⟨hb1, hb2⟩ : 0 ≤ s ∧ s < 4294967296 := by rw [← hv]; exact crcOf_bd xs
  replace hv := Lib.hid hv
  replace hr := Lib.hid hr
  go_enter Try.func6, Try.ntmps6
  go_wp2_with fail
  refine (crc_of _ _ _ _ hr.out).mono ?_
  rintro e w1 ⟨rfl, hb⟩
  rw [hv.out]
  go_wp2_with fail
  refine (clone_B _ _ _ _ (hr.out.below hb) (by omega)).mono ?_
  rintro e w2 ⟨u, rfl, hbb, hown⟩
  obtain ⟨B, d, rfl, hd1, hd2⟩ := hown.row.shape
  go_wp2_with fail
  refine (clip_B _ _ _ _ hd1 hd2).mono ?_
  rintro e w3 ⟨rfl, rfl⟩
  have hcl := (hown.row.clip).below ((Below.refl _ w2).alloc (Nat.le_refl _) (.cells #[.int .u8 (s / 16777216), .int .u8 (s / 65536 % 256), .int .u8 (s / 256 % 256), .int .u8 (s % 256)] 5))
  have hu : Src (w2.alloc (.cells #[.int .u8 (s / 16777216), .int .u8 (s / 65536 % 256), .int .u8 (s / 256 % 256), .int .u8 (s % 256)] 5)) 1 (.slice (some ⟨w2.heap.size, 0, none⟩) 4 4) (crcTail s).length ((crcTail s).map encB) := by
    have := Src.lit w2 1 #[.int .u8 (s / 16777216), .int .u8 (s / 65536 % 256), .int .u8 (s / 256 % 256), .int .u8 (s % 256)] 5 4 4 rfl
    have e : (crcTail s).map encB = [.int .u8 (s / 16777216), .int .u8 (s / 65536 % 256), .int .u8 (s / 256 % 256), .int .u8 (s % 256)] := by
      simp only [crcTail, List.map_cons, List.map_nil, encB, byteOf_val]
      rw [show s / 16777216 % 256 = s / 16777216 from by omega]
    rw [e]
    exact this
  have hby : (xs.length + (crcTail s).length) * 1 ≤ 140737488355328 := by simp [crcTail]; omega
  have hsz : w.heap.size ≤ (w2.alloc (.cells #[.int .u8 (s / 16777216), .int .u8 (s / 65536 % 256), .int .u8 (s / 256 % 256), .int .u8 (s % 256)] 5)).heap.size := by
    have h1 := hb.size; have h2 := hbb.size; simp; omega
  have hpos : 0 < (crcTail s).length := by simp [crcTail]
  replace hcl := Lib.hid hcl; replace hu := Lib.hid hu; replace hby := Lib.hid hby; replace hsz := Lib.hid hsz; replace hpos := Lib.hid hpos
  go_wp2_with (at_builtin; go_must (refine wp_app_full (base := w.heap.size) elB elB.t (by simp) hcl.out hu.out hpos.out hby.out hsz.out rfl _ _ rfl rfl rfl ?_); rintro v' w' ⟨hown', hk, _⟩)
  go_ret
  refine ⟨_, rfl, ?_, by rw [sealOf, hv.out]; exact hown'⟩
  exact (((Keeps.of_below (Below.step hb hbb) NoB).alloc _).trans hk (by intro b hb h; simp [Value.ownBlock] at h)).below
def openOk (l : List UInt8) : Bool := decide (4 ≤ l.length) && (sealOf (l.take (l.length - 4)) == l)
/-- A row of one's own, and a bool. -/
def RetOwn2 {α : Type} (enc : α → Value) (e : TypeId) (xs : List α) (b : Bool) (w : World) : Ending → World → Prop := fun en w' => ∃ v, en = .returned (.tuple #[v, .bool b]) ∧ Below w.heap.size w w' ∧ Own enc e w' w.heap.size v xs
def openRow (ok : Bool) (l : List UInt8) : List UInt8 := if ok then l else []
set_option maxHeartbeats 400000 in
theorem open_any (w : World) (F : Nat → Prop) (v : Value) (xs : List UInt8) (hr : Row encB w F v xs) (hl : xs.length ≤ 1000000000000) :
    Calls Try.prog 7 #[v] w (RetOwn2 encB 5 (openRow (openOk xs) (xs.take (xs.length - 4))) (openOk xs) w) := by
  obtain ⟨A, c, rfl, hc1, hc2⟩ := hr.shape
  by_cases h4 : 4 ≤ xs.length
  · obtain ⟨n, hn⟩ : ∃ n, xs.length = n + 4 := ⟨xs.length - 4, by omega⟩
    have hok : openOk xs = (sealOf (xs.take n) == xs) := by unfold openOk; simp [hn]
    have hta := hr.take n (by omega)
    have htl : (xs.take n).length = n := by rw [List.length_take]; omega
    rw [hok, show xs.length - 4 = n from by omega]
    rw [hn] at hr hc1 ⊢
    replace hr := Lib.hid hr
    replace hta := Lib.hid hta
    replace htl := Lib.hid htl
    have hn1 : n ≤ 1000000000000 := by omega
    replace hn := Lib.hid hn
    generalize hb : (sealOf (xs.take n) == xs) = ok
    replace hb := Lib.hid hb
    go_enter Try.func7, Try.ntmps7
    go_wp2_with fail
    refine (seal_any _ _ _ _ hta.out (by have := htl.out; omega)).mono ?_
    rintro e w1 ⟨u, rfl, hb1, hown⟩
    have hd1 := hown.row
    obtain ⟨B, d, rfl, _, _⟩ := hd1.shape
    go_wp2_with fail
    refine (equal_B _ _ _ _ _ _ _ hd1 (hr.out.below hb1)).mono ?_
    rintro e w2 ⟨rfl, hb2⟩
    rw [hb.out]
    cases ok with
    | true =>
      go_wp2_with fail
      refine (clone_B _ _ _ _ ((hta.out.below hb1).below hb2) (by have := htl.out; omega)).mono ?_
      rintro e w3 ⟨u, rfl, hb3, hown3⟩
      go_wp2
      go_ret2
      exact ⟨_, rfl, Below.step (Below.step hb1 hb2) hb3, hown3.base_ (by have := hb1.size; have := hb2.size; omega)⟩
    | false =>
      go_wp2
      go_ret2
      exact ⟨_, rfl, Below.step hb1 hb2, Own.nil _ _ _ _⟩
  · have hok : openOk xs = false := by simp [openOk, h4]
    rw [hok]
    simp only [maxLen] at hc2
    go_enter Try.func7, Try.ntmps7
    go_wp2
    go_ret2
    exact ⟨_, rfl, Below.refl _ _, Own.nil _ _ _ _⟩
theorem sealOf_length (l : List UInt8) : (sealOf l).length = l.length + 4 := by simp [sealOf, crcTail]
theorem openOk_seal (l : List UInt8) : openOk (sealOf l) = true := by
  unfold openOk
  rw [sealOf_length]
  simp [sealOf]
theorem first_of : crcOf [49, 50, 51, 52, 53, 54, 55, 56, 57] = 3421780262 := by decide +kernel
theorem constB (w : World) (C : Array Value) (n c : Nat) : (convert 22 22 (.slice (some ⟨w.heap.size, 0, none⟩) n c)).run Try.prog (w.alloc (.cells C 5)) = .ok (.slice (some ⟨w.heap.size, 0, none⟩) n c) (w.alloc (.cells C 5 (C.size, C.size + 1))) :=
  Lib.run_convert_bytes_const (P := Try.prog) w 22 5 C n c Try.underlying22 Try.underlying5
set_option maxHeartbeats 400000 in
theorem first_any (w : World) : Calls Try.prog 5 #[] w (RetB (.bool true) w) := by
  have h1 := row_lit encB w 5 (2, 3) [97, 98] (by simp) 2 rfl #[.int .u8 97, .int .u8 98] rfl
  have hcv := constB
  replace h1 := Lib.hid h1
  go_enter Try.func5, Try.ntmps5
  go_wp2_with fail
  refine (seal_any _ _ _ _ h1.out (by simp)).mono ?_
  rintro e w1 ⟨u, rfl, hb1, hown⟩
  go_wp2_with fail
  refine (open_any _ _ _ _ hown.row (by simp [sealOf_length])).mono ?_
  rintro e w2 ⟨v, rfl, hb2, hown2⟩
  have e2 : openRow (openOk (sealOf [97, 98])) ((sealOf [97, 98]).take ((sealOf [97, 98]).length - 4)) = [97, 98] := by
    rw [openOk_seal, sealOf_length]; simp [sealOf, openRow]
  rw [e2] at hown2
  rw [openOk_seal]
  have h9 := row_lit encB w2 5 (9, 10) [49, 50, 51, 52, 53, 54, 55, 56, 57] (by simp) 9 rfl #[.int .u8 49, .int .u8 50, .int .u8 51, .int .u8 52, .int .u8 53, .int .u8 54, .int .u8 55, .int .u8 56, .int .u8 57] rfl
  replace h9 := Lib.hid h9
  go_wp2_with fail
  refine (crc_of _ _ _ _ h9.out).mono ?_
  rintro e w3 ⟨rfl, hb3⟩
  rw [first_of]
  have hs := (hown2.row.below (Below.step ((Below.refl _ w2).alloc (Nat.le_refl _) _) hb3)).str (dst := 9) Try.underlying22 Try.underlying5 Try.underlying9
  go_wp2
  go_ret
  refine ⟨rfl, ?_⟩
  exact Below.step ((((Below.step (Below.step ((Below.refl _ w).alloc (Nat.le_refl _) _) hb1) hb2)).alloc (by have := hb1.size; have := hb2.size; simp at *; omega) _)) hb3
/-! ### the walk's words are the plain law's -/
theorem xor32 (a b : Nat) (ha : a < 4294967296) (hb : b < 4294967296) : bits .xor .u32 (a : Int) (b : Int) = ((a ^^^ b : Nat) : Int) := by
  have hc := Nat.xor_lt_two_pow (n := 32) ha hb
  simp only [bits, BitVec.ofInt_natCast, BitVec.toNat_xor, BitVec.toNat_ofNat]
  rw [Nat.mod_eq_of_lt (show a < 2 ^ IntKind.u32.bits from ha), Nat.mod_eq_of_lt (show b < 2 ^ IntKind.u32.bits from hb), IntKind.wrap_u32]
  omega
theorem and32 (a : Nat) (ha : a < 4294967296) : bits .and .u32 (a : Int) 1 = ((a % 2 : Nat) : Int) := by
  have h := (bits_nat .u32 32 (by decide) (fun n h0 h1 => by rw [IntKind.wrap_u32]; omega) a 1 ha (by decide)).1
  rw [Nat.and_one_is_mod] at h
  exact h
theorem crcBit_N (r : Nat) (h : r < 4294967296) : crcBit (r : Int) = (CrcP.T r : Int) := by
  unfold crcBit CrcP.T
  rw [and32 r h]
  have e : IntKind.u32.wrap (3988292384 * ((r % 2 : Nat) : Int)) = ((3988292384 * (r % 2) : Nat) : Int) := by rw [IntKind.wrap_u32]; omega
  rw [e, show (r : Int) / 2 = ((r / 2 : Nat) : Int) from by omega, xor32 _ _ (by omega) (by omega)]
theorem crcBits_N (k r : Nat) (h : r < 4294967296) : crcBits k (r : Int) = (CrcP.Tn k r : Int) := by
  induction k with
  | zero => rfl
  | succ k ih => simp only [crcBits, CrcP.Tn, ih]; exact crcBit_N _ (CrcP.Tn_lt _ _ h)
theorem crcReg_N (l : List UInt8) : ∀ r : Nat, r < 4294967296 → crcReg (r : Int) l = (CrcP.regN r (l.map UInt8.toNat) : Int) := by
  induction l with
  | nil => intro r h; rfl
  | cons a l ih =>
    intro r h
    have ha := a.toNat_lt
    have hx := Nat.xor_lt_two_pow (n := 32) h (show a.toNat < 2 ^ 32 by omega)
    simp only [crcReg, List.map_cons, CrcP.regN, crcByte, CrcP.byteN]
    rw [xor32 _ _ h (by omega), crcBits_N _ _ hx]
    exact ih _ (CrcP.Tn_lt _ _ hx)
theorem crcOf_N (l : List UInt8) : crcOf l = (CrcP.crcN l : Int) := by
  unfold crcOf CrcP.crcN crcNot
  have h0 : bits .xor .u32 IntKind.u32.max 0 = ((4294967295 : Nat) : Int) := by decide +kernel
  have hm : IntKind.u32.max = ((4294967295 : Nat) : Int) := by decide
  rw [h0, crcReg_N _ _ (by omega), hm, xor32 _ _ (by omega) (CrcP.regN_lt _ _ (by omega))]
theorem sealOf_N (l : List UInt8) : sealOf l = CrcP.sealN l := by
  unfold sealOf CrcP.sealN crcTail CrcP.tail4
  rw [crcOf_N]
  have e : ∀ n : Nat, byteOf (n : Int) = CrcP.byN n := fun n => UInt8.toNat_inj.1 (by have := byteOf_val (n : Int); rw [CrcP.byN_toNat]; omega)
  have d : ∀ (n m : Nat), (n : Int) / (m : Int) = ((n / m : Nat) : Int) := fun n m => by simp
  rw [← e, ← e, ← e, ← e, ← d, ← d, ← d]
  rfl
theorem openOk_N (l : List UInt8) : openOk l = CrcP.openN l := by unfold openOk CrcP.openN; rw [sealOf_N]
theorem flip_val (x : UInt8) (k : Nat) (hk : k < 8) : bits .xor .u8 (x.toNat : Int) (2 ^ k % 256) = ((CrcP.flipB x k).toNat : Int) := by
  have hx := x.toNat_lt
  have hp : (2 : Nat) ^ k < 256 := Nat.lt_of_lt_of_le (Nat.pow_lt_pow_right (by omega) hk) (by decide)
  have hc : ((2 : Int) ^ k % 256) = ((2 ^ k : Nat) : Int) := by
    have e : ((2 ^ k : Nat) : Int) = (2 : Int) ^ k := Int.natCast_pow 2 k
    rw [← e]
    generalize (2 ^ k : Nat) = m at hp
    omega
  rw [hc, CrcP.flipB_toNat x k hk]
  have hcc := Nat.xor_lt_two_pow (n := 8) hx hp
  simp only [bits, BitVec.ofInt_natCast, BitVec.toNat_xor, BitVec.toNat_ofNat]
  rw [Nat.mod_eq_of_lt (show x.toNat < 2 ^ IntKind.u8.bits from hx), Nat.mod_eq_of_lt (show 2 ^ k < 2 ^ IntKind.u8.bits from hp), IntKind.wrap_u8]
  omega
theorem flipAt_eq (l : List UInt8) (i : Nat) (x : UInt8) (h : l[i / 8]? = some x) : CrcP.flipAt l i = l.set (i / 8) (CrcP.flipB x (i % 8)) := by
  unfold CrcP.flipAt
  rw [List.getD_eq_getElem?_getD, h]; rfl
set_option maxHeartbeats 400000 in
theorem law_walk (w : World) (F : Nat → Prop) (A : Option Addr) (n c : Nat) (xs : List UInt8) (p q : Int) (hr : Row encB w F (.slice A n c) xs) (hp : 0 ≤ p) (hp2 : p < 65536) (hq : 0 ≤ q) (hq2 : q < 65536) (hl : xs.length ≤ 500) :
    Calls Try.prog 3 #[.slice A n c, .agg #[.int .u16 p, .int .u16 q]] w (RetB (.bool true) w) := by
  obtain ⟨rfl, hc1, hc2⟩ := hr.len
  replace hr := Lib.hid hr
  go_enter Try.func3, Try.ntmps3
  go_wp2_with fail
  refine (first_any _).mono ?_
  rintro e w1 ⟨rfl, hb1⟩
  have hr1 := hr.out.below (Below.step ((Below.refl _ w).alloc (Nat.le_refl _) _) hb1)
  replace hr1 := Lib.hid hr1
  go_wp2_with fail
  refine (seal_any _ _ _ _ hr1.out (by omega)).mono ?_
  rintro e w2 ⟨u, rfl, hb2, hown⟩
  obtain ⟨B, d, rfl, hd1, hd2⟩ := hown.row.shape
  have hsl := sealOf_length xs
  generalize hs : sealOf xs = s0 at *
  rw [hsl] at hd1 hown ⊢
  have hsl2 := Lib.hid hsl
  clear hsl
  have hb12 : Below (w.heap.size + 1) (w.alloc (.cells #[.int .u16 p, .int .u16 q] 24)) w2 := by
    have := Below.step hb1 hb2
    exact this.mono (by simp)
  have hat := (hb12.block w.heap.size (by omega)).trans (heap_alloc_new w _)
  have ha0 : w2.cell? ⟨w.heap.size, 0, none⟩ = some (.int .u16 p) := cell_of_get hat rfl
  have ha1 : w2.cell? ⟨w.heap.size, 1, none⟩ = some (.int .u16 q) := cell_of_get hat rfl
  replace hat := Lib.hid hat
  replace hs := Lib.hid hs
  obtain ⟨g, rfl, hg, hg2, hcell, hfree⟩ := hown.form (by omega)
  replace hcell := Lib.hid hcell
  replace hfree := Lib.hid hfree
  replace hown := Lib.hid hown
  go_wp2_with fail
  go_quiet (fail)
  obtain ⟨i, hi⟩ : ∃ i : Nat, p % (8 * (↑xs.length + 4)) = i := ⟨(p % (8 * (↑xs.length + 4))).toNat, by have := Int.emod_nonneg p (show (8 * ((xs.length : Int) + 4)) ≠ 0 by omega); omega⟩
  obtain ⟨j, hj⟩ : ∃ j : Nat, q % (8 * (↑xs.length + 4)) = j := ⟨(q % (8 * (↑xs.length + 4))).toNat, by have := Int.emod_nonneg q (show (8 * ((xs.length : Int) + 4)) ≠ 0 by omega); omega⟩
  have hi1 : i < 8 * (xs.length + 4) := by have := Int.emod_lt_of_pos p (show 0 < (8 * ((xs.length : Int) + 4)) by omega); omega
  have hj1 : j < 8 * (xs.length + 4) := by have := Int.emod_lt_of_pos q (show 0 < (8 * ((xs.length : Int) + 4)) by omega); omega
  rw [hi, hj]
  replace hi := Lib.hid hi
  replace hj := Lib.hid hj
  obtain ⟨x, hx⟩ := get_some_of_lt (show i / 8 < s0.length by have := hsl2.out; omega)
  have hcx : w2.cell? ⟨g, i / 8, none⟩ = some (.int .u8 (x.toNat : Int)) := hcell.out _ _ hx
  have hfx : w2.frozen? ⟨g, i / 8, none⟩ = false := hfree.out _
  have hxl := x.toNat_lt
  replace hx := Lib.hid hx
  go_wp2_with fail
  go_region
  rw [flip_val x (i % 8) (by omega)]
  generalize hw3 : (w2.drewN (nq + 1)).setCell ⟨g, i / 8, none⟩ (.int .u8 ((CrcP.flipB x (i % 8)).toNat : Int)) = w3
  have hs1 := flipAt_eq _ _ _ hx.out
  have hown3 : Own encB 5 w3 w1.heap.size (.slice (some ⟨g, 0, none⟩) (xs.length + 4) d) (CrcP.flipAt s0 i) := by
    rw [hs1, ← hw3]
    exact Own.set (w := w2.drewN (nq + 1)) hown.out (i / 8) (CrcP.flipB x (i % 8))
  have hb3 : Below w1.heap.size w1 w3 := by
    rw [← hw3]
    exact (Below.drewN hb2 _).setCell hg _
  have hsz3 : w3.heap.size = w2.heap.size := by rw [← hw3]; simp [World.setCell, World.drewN]
  replace hw3 := Lib.hid hw3
  replace hsz3 := Lib.hid hsz3
  have hone : openOk (CrcP.flipAt s0 i) = false := by
    rw [← hs.out, sealOf_N, openOk_N]
    exact CrcP.one_told xs hl i hi1
  have hl3 : (CrcP.flipAt s0 i).length ≤ 1000000000000 := by rw [CrcP.flipAt_length, hsl2.out]; omega
  go_wp2_with fail
  refine (open_any _ _ _ _ hown3.row hl3).mono ?_
  rintro e w4 ⟨u1, rfl, hb4, _⟩
  rw [hone]
  have hown4 := hown3.below hb4
  obtain ⟨g', hgg, _, hg4, hcell4, hfree4⟩ := hown4.form (by omega)
  cases hgg
  replace hcell4 := Lib.hid hcell4
  replace hfree4 := Lib.hid hfree4
  replace hown4 := Lib.hid hown4
  obtain ⟨y, hy⟩ := get_some_of_lt (show j / 8 < (CrcP.flipAt s0 i).length by rw [CrcP.flipAt_length]; have := hsl2.out; omega)
  have hcy : w4.cell? ⟨g, j / 8, none⟩ = some (.int .u8 (y.toNat : Int)) := hcell4.out _ _ hy
  have hfy : w4.frozen? ⟨g, j / 8, none⟩ = false := hfree4.out _
  have hyl := y.toNat_lt
  replace hy := Lib.hid hy
  go_wp2_with fail
  go_region
  rw [flip_val y (j % 8) (by omega)]
  generalize hw5 : (w4.setCell ⟨g, j / 8, none⟩ (.int .u8 ((CrcP.flipB y (j % 8)).toNat : Int))).drew = w5
  have hs2 := flipAt_eq _ _ _ hy.out
  have hown5 : Own encB 5 w5 w1.heap.size (.slice (some ⟨g, 0, none⟩) (xs.length + 4) d) (CrcP.flipAt (CrcP.flipAt s0 i) j) := by
    rw [hs2, ← hw5]
    exact Own.set (w := w4) hown4.out (j / 8) (CrcP.flipB y (j % 8))
  have hb5 : Below w1.heap.size w1 w5 := by
    rw [← hw5]
    exact (((hb3.trans (hb4.mono hb3.size)).setCell hg _)).drew
  replace hw5 := Lib.hid hw5
  have hl5 : (CrcP.flipAt (CrcP.flipAt s0 i) j).length ≤ 1000000000000 := by rw [CrcP.flipAt_length, CrcP.flipAt_length, hsl2.out]; omega
  go_wp2_with fail
  refine (open_any _ _ _ _ hown5.row hl5).mono ?_
  rintro e w6 ⟨u2, rfl, hb6, hown6⟩
  have hend : Below w.heap.size w w6 := Below.step ((Below.step ((Below.refl _ w).alloc (Nat.le_refl _) _) hb1)) (hb5.trans (hb6.mono hb5.size))
  by_cases hij : i = j
  · subst hij
    have h0 : CrcP.flipAt (CrcP.flipAt s0 i) i = s0 := CrcP.flipAt_flipAt _ _ (by have := hsl2.out; omega)
    have h2 : openOk s0 = true := by rw [← hs.out]; exact openOk_seal _
    rw [h0] at hown6
    rw [h0]
    have e2 : openRow (openOk s0) (s0.take (s0.length - 4)) = xs := by
      rw [h2, ← hs.out, sealOf_length]; simp [sealOf, openRow]
    rw [e2] at hown6
    rw [h2]
    have hst := hown6.row.str (dst := 9) Try.underlying22 Try.underlying5 Try.underlying9
    have hst2 := ((hr1.out.below hb5).below hb6).str (dst := 9) Try.underlying22 Try.underlying5 Try.underlying9
    go_wp2
    go_ret
    exact ⟨rfl, hend⟩
  · have h2 : openOk (CrcP.flipAt (CrcP.flipAt s0 i) j) = false := by
      rw [← hs.out, sealOf_N, openOk_N]
      exact CrcP.two_told xs hl i j hi1 hj1 hij
    rw [h2]
    have hne : ((i : Int) == (j : Int)) = false := by simp only [beq_eq_false_iff_ne, ne_eq]; omega
    go_wp2
    go_ret
    exact ⟨rfl, hend⟩
end Go.Proofs.Ytbgkohfifcfofaa
