/- The walks of path.Parent, Child, Below and Compare. -/
import Derived.Test.YtbgkohfifcfofaaDoorClI
import Derived.Test.YtbgkohfifcfofaaDoorClipI
import Derived.Test.YtbgkohfifcfofaaDoorEqI
import Derived.Test.YtbgkohfifcfofaaDoorCmpW
import Derived.Test.YtbgkohfifcfofaaDoorPathR
set_option linter.unusedVariables false
set_option linter.unusedSimpArgs false
set_option maxRecDepth 100000
open Go.RowKit
namespace Go.Proofs.YtbgkohfifcfofaaDoor
open Go.Proofs
theorem path_compare (w : World) (F G : Nat → Prop) (v u : Value) (xs ys : List Int) (hx : Row encI w F v xs) (hy : Row encI w G u ys) :
    Calls Tryd.prog 24 #[v, u] w fun e w' => e = .returned (.int .i64 (cmpL xs ys)) ∧ w = w' := by
  generalize hc : cmpL xs ys = q
  replace hc := Lib.hid hc
  go_enter Tryd.func24, Tryd.ntmps24
  go_wp2_with (go_at_call 44; refine (compare_I _ _ _ _ _ _ _ hx hy).mono ?_; rintro e w' ⟨rfl, rfl⟩; rw [hc.out])
  go_ret
  simp
def pathBelow (p q : List Int) : Bool := decide (q.length < p.length) && (p.take q.length == q)
theorem path_below (w : World) (F G : Nat → Prop) (v u : Value) (xs ys : List Int) (hx : Row encI w F v xs) (hy : Row encI w G u ys) :
    Calls Tryd.prog 23 #[v, u] w (RetB (.bool (pathBelow xs ys)) w) := by
  obtain ⟨A, c, rfl, hc1, hc2⟩ := hx.shape
  obtain ⟨B, d, rfl, hd1, hd2⟩ := hy.shape
  simp only [maxLen] at hc2 hd2
  by_cases hl : ys.length < xs.length
  · have ht := hx.take ys.length (by omega)
    have hcl : ys.length ≤ c := by omega
    have e : pathBelow xs ys = (xs.take ys.length == ys) := by simp [pathBelow, hl]
    rw [e]
    generalize hq : (xs.take ys.length == ys) = q
    replace hq := Lib.hid hq
    replace e := Lib.hid e
    replace hx := Lib.hid hx
    replace hy := Lib.hid hy
    replace ht := Lib.hid ht
    go_enter Tryd.func23, Tryd.ntmps23
    go_wp2_with fail
    refine (equal_I _ _ _ _ _ _ _ ht.out hy.out).mono ?_
    rintro e w1 ⟨rfl, hb⟩
    rw [hq.out]
    go_wp2
    go_ret
    exact ⟨by simp, hb⟩
  · have e : pathBelow xs ys = false := by simp [pathBelow, hl]
    rw [e]
    replace e := Lib.hid e
    go_enter Tryd.func23, Tryd.ntmps23
    go_wp2
    go_ret
    exact ⟨rfl, Below.refl _ _⟩
/-- A row of one's own, a number, a bool. -/
def RetParent (p : List Int) (n : Int) (b : Bool) (w : World) : Ending → World → Prop := fun en w' => ∃ v, en = .returned (.tuple #[v, .int .i64 n, .bool b]) ∧ Below w.heap.size w w' ∧ Own encI 3 w' w.heap.size v p
theorem path_parent_root (w : World) (F : Nat → Prop) (v : Value) (hx : Row encI w F v []) :
    Calls Tryd.prog 18 #[v] w (RetParent [] 0 false w) := by
  obtain ⟨A, c, rfl, hc1, hc2⟩ := hx.shape
  go_enter Tryd.func18, Tryd.ntmps18
  go_wp2
  go_ret3
  exact ⟨_, rfl, Below.refl _ _, Own.nil _ _ _ _⟩
set_option maxHeartbeats 1000000 in
theorem path_parent (w : World) (F : Nat → Prop) (v : Value) (xs : List Int) (n : Int) (hl : xs.length ≤ 1000000000) (hx : Row encI w F v (xs ++ [n])) :
    Calls Tryd.prog 18 #[v] w (RetParent xs n true w) := by
  obtain ⟨A, c, rfl, hc1, hc2⟩ := hx.shape
  simp only [maxLen] at hc2
  have hln : (xs ++ [n]).length = xs.length + 1 := by simp
  obtain ⟨b, o, rfl, hF, hcell⟩ := hx.at (k := xs.length) (x := n) (by simp)
  have ht := hx.take xs.length (by omega)
  rw [List.take_left] at ht
  have hlt := World.block_lt_of_cell? _ _ hcell
  simp only [encI] at hcell
  generalize hm : (xs ++ [n]).length = m at *
  generalize hk : xs.length = k at *
  have hmk : ((m : Int) - 1) = (k : Int) := by omega
  have hk1 : k < m := by omega
  have hk2 : (k : Int) < (m : Int) := by omega
  have hk3 : k ≤ c := by omega
  have hk0 : (0 : Int) ≤ (k : Int) := by omega
  replace hln := Lib.hid hln
  replace hm := Lib.hid hm
  replace hk := Lib.hid hk
  replace hx := Lib.hid hx
  replace ht := Lib.hid ht
  go_enter Tryd.func18, Tryd.ntmps18
  go_wp2_with fail
  go_region_held3 (fun w' => w'.cell? ⟨b, o + k, none⟩ = some (.int .i64 n)) (first | assumption | go_keep)
    (first | (go_at_call 39; refine (clone_I _ _ _ _ (ht.out.below (Below.drewN (Below.refl _ w) _)) (by have := hk.out; omega)).mono ?_; rintro e w' ⟨u, rfl, hb, hown⟩; have hcc := (hb.cell (p := ⟨b, o + k, none⟩) hlt).trans hcell))
  all_goals first
    | (exfalso; omega)
    | (go_wp2; go_ret3; exact ⟨_, rfl, ⟨hb.os, hb.tape, hb.output, hb.size, hb.block⟩, hown⟩)
def pathChild (p : List Int) (n : Int) : Bool := pathRight (p ++ [n])
theorem path_child (w : World) (F : Nat → Prop) (v : Value) (xs : List Int) (n : Int) (hl : xs.length ≤ 1000000000) (hx : Row encI w F v xs) :
    Calls Tryd.prog 19 #[v, .int .i64 n] w (RetOwn2 encI 3 (if pathChild xs n then xs ++ [n] else []) (pathChild xs n) w) := by
  generalize hr : pathChild xs n = r
  replace hr := Lib.hid hr
  have hn : ∃ zs, zs = (if r = true then xs ++ [n] else []) := ⟨_, rfl⟩
  obtain ⟨zs, hzs⟩ := hn
  rw [← hzs]
  replace hzs := Lib.hid hzs
  go_enter Tryd.func19, Tryd.ntmps19
  go_wp2_with fail
  refine (clone_I _ _ _ _ hx (by omega)).mono ?_
  rintro e w1 ⟨u, rfl, hb1, hown⟩
  obtain ⟨B, d, rfl, hd1, hd2⟩ := hown.row.shape
  go_wp2_with fail
  refine (clip_I _ _ _ _ hd1 hd2).mono ?_
  rintro e w2 ⟨rfl, rfl⟩
  have hcl := (hown.row.clip).below ((Below.refl _ w1).alloc (Nat.le_refl _) (.cells #[.int .i64 n] 3))
  have hu : Src (w1.alloc (.cells #[.int .i64 n] 3)) 1 (.slice (some ⟨w1.heap.size, 0, none⟩) 1 1) [n].length ([n].map encI) := Src.lit w1 1 #[.int .i64 n] 3 1 1 rfl
  have hby : (xs.length + [n].length) * 8 ≤ 140737488355328 := by simp; omega
  have hsz : w.heap.size ≤ (w1.alloc (.cells #[.int .i64 n] 3)).heap.size := by have := hb1.size; simp; omega
  have hpos : 0 < [n].length := by simp
  replace hcl := Lib.hid hcl; replace hu := Lib.hid hu; replace hby := Lib.hid hby; replace hsz := Lib.hid hsz; replace hpos := Lib.hid hpos
  go_wp2_with (at_builtin; go_must (refine wp_app_full (base := w.heap.size) elI elI.t (by simp) hcl.out hu.out hpos.out hby.out hsz.out rfl _ _ rfl rfl rfl ?_); rintro v' w' ⟨hown', hk, _⟩)
  have hbk : Below w.heap.size w w' := (((Keeps.of_below hb1 NoB).alloc _).trans hk (by intro b hb h; simp [Value.ownBlock] at h)).below
  refine (path_right _ _ _ _ hown'.row).mono ?_
  rintro e w3 ⟨rfl, rfl⟩
  rw [show pathRight (xs ++ [n]) = r from hr.out]
  cases r with
  | true =>
    go_wp2
    go_ret2
    exact ⟨_, rfl, hbk, by have e := hzs.out; simp at e; rw [e]; exact hown'⟩
  | false =>
    go_wp2
    go_ret2
    exact ⟨_, rfl, hbk, by have e := hzs.out; simp at e; rw [e]; exact Own.nil _ _ _ _⟩
end Go.Proofs.YtbgkohfifcfofaaDoor
