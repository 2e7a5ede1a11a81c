/- The walk of regencyref03.Number. -/
import Derived.Test.YtbgkohfifcfofaaDoorProg
import Derived.Test.YtbgkohfifcfofaaDoorBase
import Derived.Test.YtbgkohfifcfofaaDoorTapeP
import Derived.Deep.RegionWith
import Derived.IntWalk
import Derived.Laws.BitsLemmas
set_option linter.unusedVariables false
set_option linter.unusedSimpArgs false
set_option maxRecDepth 100000
open Go.RowKit
namespace Go.Proofs.YtbgkohfifcfofaaDoor
open Go.Proofs
theorem byte_val' (n : Nat) (h : n < 256) : encB (UInt8.ofNat n) = .int .u8 (n : Int) := by
  simp only [encB, UInt8.toNat_ofNat']
  congr 1
  omega
/-- A string of one byte, out of a box. -/
theorem str_one (W : World) (b : Nat) (x : Nat) (hx : x < 256) (h : W.heap[b]? = some (.cells #[.int .u8 (x : Int)] 5 (0, 0))) :
    (convert 22 9 (.slice (some ⟨b, 0, none⟩) 1 1)).run Tryd.prog W = .ok (.string ⟨[UInt8.ofNat x].toArray⟩) W := by
  have hr : Row encB W (fun _ => True) (.slice (some ⟨b, 0, none⟩) 1 1) [UInt8.ofNat x] := by
    refine ⟨_, 1, rfl, Nat.le_refl _, by simp [maxLen], .inr ⟨b, 0, rfl, trivial, fun j y hy => ?_⟩⟩
    match j, hy with
    | 0, hy =>
      simp at hy
      subst hy
      rw [byte_val' x hx]
      exact cell_of_get h rfl
    | j + 1, hy => simp at hy
  exact hr.str Tryd.underlying22 Tryd.underlying5 Tryd.underlying9
set_option maxHeartbeats 1000000 in
theorem ref3_number (d : Nat) : ∀ (k : Nat) (n : Int) (w : World), n = (k : Int) → k < d → k ≤ 4611686018427387903 →
    Calls Tryd.prog 42 #[.int .i64 n] w (RetB (.string ⟨(numB k).toArray⟩) w) := by
  induction d with
  | zero => intro k n w _ h; omega
  | succ d ih =>
    intro k n w hn hd hk
    subst hn
    by_cases h : k < 128
    · have hs : numB k = [UInt8.ofNat k] := numB_small k h
      have hcv := str_one (w.alloc (.cells #[.int .u8 (k : Int)] 5)) w.heap.size k (by omega) (heap_alloc_new w _)
      rw [hs]
      replace hs := Lib.hid hs
      go_enter Tryd.func42, Tryd.ntmps42
      go_wp2_with fail
      go_ret
      exact ⟨rfl, (Below.refl _ w).alloc (Nat.le_refl _) _⟩
    · have hs : numB k = UInt8.ofNat (128 + k % 128) :: numB (k / 128) := numB_step k h
      rw [hs]
      replace hs := Lib.hid hs
      have hih := fun W => ih (k / 128) ((k : Int) / 128) W (by omega) (by omega) (by omega)
      clear ih
      have hnl := numB_len9 (k / 128) (by omega)
      generalize hnb : numB (k / 128) = nb at *
      have hadd := str_add (P := Tryd.prog) [UInt8.ofNat (128 + k % 128)] nb (by simp; omega)
      replace hih := Lib.hid hih
      have hcv := fun W b => str_one W b (128 + k % 128) (by omega)
      have hcast : ((128 + k % 128 : Nat) : Int) = 128 + (k : Int) % 128 := by omega
      rw [hcast] at hcv
      have e1 : (k : Int).tmod 128 = (k : Int) % 128 := Int.tmod_eq_emod_of_nonneg (by omega)
      have e2 : IntKind.i64.wrap (128 + (k : Int) % 128) = 128 + (k : Int) % 128 := IntWalk.i64_in _ (by omega)
      have e3 : IntKind.u8.wrap (128 + (k : Int) % 128) = 128 + (k : Int) % 128 := by rw [IntKind.wrap_u8]; omega
      have e4 : IntKind.i64.wrap ((k : Int) / 128) = (k : Int) / 128 := IntWalk.i64_in _ (by omega)
      have hcv1 := hcv ((w.alloc (.cells #[.int .u8 (128 + (k : Int) % 128)] 5)).drew) w.heap.size (heap_alloc_new w _)
      replace hcast := Lib.hid hcast
      replace hcv := Lib.hid hcv
      generalize hst : UInt8.ofNat (128 + k % 128) = x at *
      replace hst := Lib.hid hst
      go_enter Tryd.func42, Tryd.ntmps42
      go_wp2_with fail
      go_region_with (first | (go_at_call 42; refine (hih.out _).mono ?_; rintro e w' ⟨rfl, hb⟩; first | (have hg : w'.heap[w.heap.size]? = some (.cells #[.int .u8 (128 + (k : Int) % 128)] 5 (0, 0)) := (hb.block w.heap.size (by simp)).trans (heap_alloc_new w (.cells #[.int .u8 (128 + (k : Int) % 128)] 5)); have hcv2 := hcv.out w' w.heap.size hg; clear hg) | (have hcv3 := hcv.out (w'.alloc (.cells #[.int .u8 (128 + (k : Int) % 128)] 5)) w'.heap.size (heap_alloc_new w' (.cells #[.int .u8 (128 + (k : Int) % 128)] 5)))))
      all_goals
        go_wp2
        go_ret
        refine ⟨rfl, ?_⟩
        first
          | exact (((Below.refl _ w).alloc (Nat.le_refl _) _).drew).trans (hb.mono (by simp))
          | exact (((Below.refl _ w).drew).trans (hb.mono (by simp))).alloc (by have := hb.size; simp at this; omega) _
end Go.Proofs.YtbgkohfifcfofaaDoor
