/- The walk of path.Get. -/
import Derived.Test.YtbgkohfifcfofaaDoorTape1
import Derived.Test.YtbgkohfifcfofaaDoorClI
set_option linter.unusedVariables false
set_option linter.unusedSimpArgs false
set_option maxRecDepth 100000
open Go.RowKit
namespace Go.Proofs.YtbgkohfifcfofaaDoor
open Go.Proofs
/-- k numbers that are read, and the tape behind them. -/
def readN (m : Nat) : Nat → TP → List Int × TP
  | 0, t => ([], t)
  | k + 1, t => ((readN m k t).1 ++ [(((readN m k t).2.number m).1 : Int)], ((readN m k t).2.number m).2)
theorem readN_len (m k : Nat) (t : TP) : (readN m k t).1.length = k := by
  induction k with
  | zero => rfl
  | succ k ih => simp [readN, ih]
def pathGetT (t : TP) : List Int × TP := readN 1048576 (t.number 6).1 (t.number 6).2
def pathGet (t : TP) : List Int := if (pathGetT t).2.er.isSome then [] else (pathGetT t).1
def pathGetE (t : TP) : Nat := if (pathGetT t).2.er.isSome then 10 else 0
def Apart (F : Nat → Prop) (v : Value) : Prop := ∀ b, v.ownBlock = some b → ¬ F b
/-- What path.Get leaves. -/
def RetGet {α : Type} (enc : α → Value) (e : TypeId) (l : List α) (er : Nat) (bt : Nat) (F : Nat → Prop) (t : TP) (w : World) : Ending → World → Prop := fun en w' =>
  ∃ v, en = .returned (.tuple #[v, .int .i64 (er : Int)]) ∧ Keeps (fun b => b = bt) w w' ∧ Own enc e w' w.heap.size v l ∧ ∃ F' : Nat → Prop, TapeAt F' w' bt t ∧ (∀ b, F' b → F b ∨ w.heap.size ≤ b) ∧ Apart F' v
set_option maxHeartbeats 1000000 in
theorem path_get (w : World) (F : Nat → Prop) (bt : Nat) (t : TP) (h : TapeAt F w bt t) :
    Calls Tryd.prog 8 #[.pointer (some ⟨bt, 0, none⟩)] w (RetGet encI 3 (pathGet t) (pathGetE t) bt F (pathGetT t).2 w) := by
  have h6 := TP.number_le t 6
  have hbt := h.btlt
  generalize hn : (t.number 6).1 = n at *
  generalize hl : pathGet t = pl
  generalize he : pathGetE t = pe
  generalize ht : (pathGetT t).2 = pt
  replace hl := Lib.hid hl; replace he := Lib.hid he; replace ht := Lib.hid ht; replace hn := Lib.hid hn
  go_enter Tryd.func8, Tryd.ntmps8
  go_wp2_with fail
  refine (tape_number _ _ _ _ 6 6 rfl (by omega) h).mono ?_
  rintro e w1 ⟨rfl, hk1, F1, hT1, hF1⟩
  rw [hn.out]
  have hsz1 := hk1.size
  replace hk1 := Lib.hid hk1
  replace hF1 := Lib.hid hF1
  go_wp2_with fail
  go_loopw [4, 7] (fun v i wr => ∃ k : Nat, k ≤ n ∧ i = .int .i64 k ∧ Keeps (fun b => b = bt) w wr ∧ Own encI 3 wr w.heap.size v (readN 1048576 k (t.number 6).2).1 ∧
    ∃ Fr : Nat → Prop, TapeAt Fr wr bt (readN 1048576 k (t.number 6).2).2 ∧ Hid ((∀ b, Fr b → F b ∨ w.heap.size ≤ b) ∧ Apart Fr v)) (fun _ i _ => n - (intOf i).toNat)
  case atStart => exact ⟨0, Nat.zero_le _, rfl, hk1.out, Own.nil _ _ _ _, F1, hT1, Lib.hid ⟨hF1.out, fun b hb => by cases hb⟩⟩
  case round =>
    obtain ⟨k, hk, rfl, hkeep, hown, Fr, hT, hFr⟩ := hrel
    by_cases hlt : k < n
    · obtain ⟨A, n0, c0, rfl⟩ := hown.row.shp
      go_wp2_with fail
      refine (tape_number _ _ _ _ 1048576 1048576 rfl (by omega) hT).mono ?_
      rintro e w2 ⟨rfl, hk2, F2, hT2, hF2⟩
      generalize hx : ((readN 1048576 k (t.number 6).2).2.number 1048576).1 = x at *
      have hown2 : Own encI 3 w2 w.heap.size (.slice A n0 c0) (readN 1048576 k (t.number 6).2).1 := hown.keep hk2 (fun b hb he => by have := (hown.lt b hb).1; omega)
      have hv := hown2.below ((Below.refl _ w2).alloc (Nat.le_refl _) (.cells #[.int .i64 (x : Int)] 3))
      have hu : Src (w2.alloc (.cells #[.int .i64 (x : Int)] 3)) 1 (.slice (some ⟨w2.heap.size, 0, none⟩) 1 1) [(x : Int)].length ([(x : Int)].map encI) := Src.lit w2 1 #[.int .i64 (x : Int)] 3 1 1 rfl
      have hby : ((readN 1048576 k (t.number 6).2).1.length + [(x : Int)].length) * 8 ≤ 140737488355328 := by rw [readN_len]; simp; omega
      have hsz : w.heap.size ≤ (w2.alloc (.cells #[.int .i64 (x : Int)] 3)).heap.size := by have := hkeep.size; have := hk2.size; simp; omega
      have hapart : Apart F2 (.slice A n0 c0) := by
        intro b hb hf
        rcases hF2 b hf with h1 | h1
        · exact hFr.out.2 b hb h1
        · have := (hown.lt b hb).2; omega
      replace hv := Lib.hid hv; replace hu := Lib.hid hu; replace hby := Lib.hid hby; replace hsz := Lib.hid hsz; replace hx := Lib.hid hx; replace hapart := Lib.hid hapart; replace hF2 := Lib.hid hF2
      go_wp2_with (at_builtin; go_must (refine wp_app_own (fun _ => rfl) elI elI.t (by simp) hv.out hu.out hby.out hsz.out rfl _ _ rfl rfl rfl ?_); rintro v' w3 ha; replace ha := Lib.hid ha)
      have ha := ha.out
      have hkk : Keeps (fun b => (Value.slice A n0 c0).ownBlock = some b) w2 w3 := ((Keeps.refl _ w2).alloc _).trans ha.keep (fun b _ h => h)
      go_roundw
      case rel =>
        refine ⟨k + 1, by omega, by go_num, ?_, ?_, F2, ?_, Lib.hid ⟨fun b hb => ?_, ?_⟩⟩
        · exact (hkeep.trans hk2 (fun _ _ h => h)).trans hkk (fun b hb he => by have := (hown.lt b he).1; omega)
        · have := ha.own
          simp only [readN, hx.out]
          exact this
        · have h3 : TapeAt F2 w3 bt ((readN 1048576 k (t.number 6).2).2.number 1048576).2 := hT2.keep hkk (fun b hb he => hapart.out b he hb) (fun he => by have := (hown.lt bt he).1; omega)
          exact h3
        · rcases hF2.out b hb with h1 | h1
          · exact hFr.out.1 b h1
          · exact .inr (by have := hkeep.size; omega)
        · intro b hb hf
          rcases ha.blk with h1 | h1
          · rw [h1] at hb; exact hapart.out b hb hf
          · rw [h1] at hb
            have := hT2.lt b hf
            simp at hb
            omega
      case measure => simp [intOf]; omega
    · have hkn : k = n := by omega
      subst hkn
      have hgt : pathGetT t = readN 1048576 k (t.number 6).2 := by unfold pathGetT; rw [hn.out]
      have hpt : (readN 1048576 k (t.number 6).2).2 = pt := by rw [← hgt]; exact ht.out
      rw [hpt] at hT
      replace hgt := Lib.hid hgt
      replace hpt := Lib.hid hpt
      replace hFr := Lib.hid hFr
      obtain ⟨A, n0, c0, rfl⟩ := hown.row.shp
      replace hown := Lib.hid hown
      cases her : pt.er with
      | none =>
        have hpl : pl = (readN 1048576 k (t.number 6).2).1 := by rw [← hl.out]; unfold pathGet; rw [ht.out, her, hgt.out]; simp
        have hpe : pe = 0 := by rw [← he.out]; unfold pathGetE; rw [ht.out, her]; simp
        replace her := Lib.hid her; replace hpl := Lib.hid hpl; replace hpe := Lib.hid hpe
        go_wp2_with fail
        refine (tape_err _ _ _ _ hT).mono ?_
        rintro e w2 ⟨ev, rfl, rfl, hev⟩
        rw [her.out] at hev
        obtain rfl : ev = .nilIface := hev
        go_wp2
        go_ret2
        exact ⟨_, by rw [hpe.out]; rfl, hkeep, by rw [hpl.out]; exact hown.out, Fr, hT, hFr.out.out.1, hFr.out.out.2⟩
      | some e0 =>
        have hpl : pl = [] := by rw [← hl.out]; unfold pathGet; rw [ht.out, her]; simp
        have hpe : pe = 10 := by rw [← he.out]; unfold pathGetE; rw [ht.out, her]; simp
        replace her := Lib.hid her; replace hpl := Lib.hid hpl; replace hpe := Lib.hid hpe
        go_wp2_with fail
        refine (tape_err _ _ _ _ hT).mono ?_
        rintro e w2 ⟨ev, rfl, rfl, hev⟩
        rw [her.out] at hev
        obtain ⟨bf, bv, rfl, _⟩ := hev
        go_wp2
        go_ret2
        exact ⟨_, by rw [hpe.out]; rfl, hkeep, by rw [hpl.out]; exact Own.nil _ _ _ _, Fr, hT, hFr.out.out.1, fun b hb => by cases hb⟩
end Go.Proofs.YtbgkohfifcfofaaDoor
