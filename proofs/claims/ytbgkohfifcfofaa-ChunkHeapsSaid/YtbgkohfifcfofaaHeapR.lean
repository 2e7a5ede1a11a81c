/- Heaps of chunks: what the program reads of them. -/
import Derived.Test.YtbgkohfifcfofaaHeapW
set_option linter.unusedVariables false
set_option linter.unusedSimpArgs false
set_option maxRecDepth 100000
open Go.RowKit
namespace Go.Proofs.Ytbgkohfifcfofaa
open Go.Proofs

def missS (h : Hd) (st : St) : Int := (h.cnt : Int) - (cntS st : Int)
theorem missing_nil (w : World) : Calls Try.prog 12 #[.pointer none] w fun e w' => e = .returned (.int .i64 0) ∧ w = w' := by
  go_enter Try.func12, Try.ntmps12
  go_wp2
  go_ret
  exact ⟨rfl, rfl⟩
theorem cntS_le {w : World} {bh bm : Nat} {F : Nat → Prop} {h : Hd} {st : St} (H : HeapAt w bh bm F h st) : cntS st ≤ h.cnt ∧ h.cnt ≤ 1073741824 := by
  have h1 : cntS st ≤ st.length := List.countP_le_length
  have h2 := H.len
  refine ⟨by omega, ?_⟩
  cases hr : h.right with
  | false => rw [Hd.cnt_no hr]; omega
  | true =>
    have h3 := (Hd.cnt_mul hr).2.2
    have h4 := ((Hd.right_iff _).1 hr).2.1
    omega
set_option maxHeartbeats 2000000 in
theorem heap_missing (w : World) (bh bm : Nat) (F : Nat → Prop) (h : Hd) (st : St) (H : HeapAt w bh bm F h st) :
    Calls Try.prog 12 #[.pointer (some ⟨bh, 0, none⟩)] w (RetB (.int .i64 (missS h st)) w) := by
  obtain ⟨c0, c1, c2, c3⟩ := H.cells
  obtain ⟨m1, m2⟩ := cntS_le H
  obtain ⟨g, hg, hgr⟩ := H.map
  have hbd : Below w.heap.size w w.drew := (Below.refl _ w).drew
  have hl0 := (hg.below hbd).len Try.underlying59 3
  have hv : (⟨h.L, h.S, h.D⟩ : Hd) = h := rfl
  replace hgr := Lib.hid hgr; replace H := Lib.hid H; replace hg := Lib.hid hg; replace hbd := Lib.hid hbd
  unfold missS
  generalize hcs : cntS st = cs at *
  replace hcs := Lib.hid hcs
  have hwr : IntKind.i64.wrap ((h.cnt : Int) - (cs : Int)) = (h.cnt : Int) - (cs : Int) := IntWalk.i64_in _ (by omega)
  go_enter Try.func12, Try.ntmps12
  go_wp2
  go_region_with (go_at_call 26; refine (head_count _ h).mono ?_; rintro e w1 ⟨rfl, hb1⟩; have d3 := (H.out.below (hbd.out.trans hb1)).cells.2.2.2; have hl1 := (hg.out.below (hbd.out.trans hb1)).len Try.underlying59 3; replace hb1 := Lib.hid hb1)
  all_goals
    go_wp2
    go_ret
    exact ⟨rfl, hbd.out.trans hb1.out⟩
/-- Is chunk k there? -/
def pr (st : St) (k : Nat) : Bool := (elF st (k : Int)).isSome
/-- What a next one that misses is: from i on, else from the start, else none. -/
def NextIs (n : Nat) (st : St) (i : Int) (r : Int) : Prop :=
  (∃ k : Nat, r = k ∧ k < n ∧ pr st k = false ∧ i ≤ k ∧ ∀ j : Nat, j < k → i ≤ j → pr st j = true) ∨
  (∃ k : Nat, r = k ∧ k < n ∧ pr st k = false ∧ (∀ j : Nat, j < n → i ≤ j → pr st j = true) ∧ ∀ j : Nat, j < k → pr st j = true) ∨
  (r = -1 ∧ ∀ j : Nat, j < n → pr st j = true)
theorem NextIs.one {n : Nat} {st : St} {i r q : Int} (h : NextIs n st i r) (g : NextIs n st i q) : r = q := by
  rcases h with ⟨k, rfl, h1, h2, h3, h4⟩ | ⟨k, rfl, h1, h2, h3, h4⟩ | ⟨rfl, h1⟩ <;> rcases g with ⟨l, rfl, g1, g2, g3, g4⟩ | ⟨l, rfl, g1, g2, g3, g4⟩ | ⟨rfl, g1⟩
  · rcases Nat.lt_trichotomy k l with h | h | h
    · rw [g4 k h h3] at h2; cases h2
    · rw [h]
    · rw [h4 l h g3] at g2; cases g2
  · rw [g3 k h1 h3] at h2; cases h2
  · rw [g1 k h1] at h2; cases h2
  · rw [h3 l g1 g3] at g2; cases g2
  · rcases Nat.lt_trichotomy k l with h | h | h
    · rw [g4 k h] at h2; cases h2
    · rw [h]
    · rw [h4 l h] at g2; cases g2
  · rw [g1 k h1] at h2; cases h2
  · rw [h1 l g1] at g2; cases g2
  · rw [h1 l g1] at g2; cases g2
  · rfl
/-- Where the search stands: j steps from s on, round the end. -/
structure SeekAt (n : Nat) (st : St) (s j p : Nat) : Prop where
  lt : p < n ∧ s < n ∧ j ≤ n
  at_ : (p = s + j ∧ ∀ k : Nat, s ≤ k → k < p → pr st k = true) ∨ (p + n = s + j ∧ (∀ k : Nat, s ≤ k → k < n → pr st k = true) ∧ ∀ k : Nat, k < p → pr st k = true)
def Start (n : Nat) (i : Int) (s : Nat) : Prop := (∀ k : Nat, i ≤ k ↔ s ≤ k) ∨ (s = 0 ∧ ∀ k : Nat, k < n → ¬ i ≤ k)
theorem SeekAt.start {n : Nat} {st : St} {s : Nat} (h : s < n) : SeekAt n st s 0 s := ⟨⟨h, h, by omega⟩, .inl ⟨rfl, fun k h1 h2 => by omega⟩⟩
theorem SeekAt.step {n : Nat} {st : St} {s j p : Nat} (h : SeekAt n st s j p) (hj : j < n) (hp : pr st p = true) : SeekAt n st s (j + 1) (if p + 1 = n then 0 else p + 1) := by
  obtain ⟨⟨h1, h2, h3⟩, h4⟩ := h
  split
  · rename_i he
    refine ⟨⟨by omega, h2, by omega⟩, .inr ?_⟩
    rcases h4 with ⟨a, b⟩ | ⟨a, b, c⟩
    · refine ⟨by omega, fun k hk1 hk2 => ?_, fun k hk => by omega⟩
      by_cases hkp : k = p
      · rw [hkp]; exact hp
      · exact b k hk1 (by omega)
    · omega
  · refine ⟨⟨by omega, h2, by omega⟩, ?_⟩
    rcases h4 with ⟨a, b⟩ | ⟨a, b, c⟩
    · refine .inl ⟨by omega, fun k hk1 hk2 => ?_⟩
      by_cases hkp : k = p
      · rw [hkp]; exact hp
      · exact b k hk1 (by omega)
    · refine .inr ⟨by omega, b, fun k hk => ?_⟩
      by_cases hkp : k = p
      · rw [hkp]; exact hp
      · exact c k (by omega)
theorem SeekAt.here {n : Nat} {st : St} {s j p : Nat} {i : Int} (h : SeekAt n st s j p) (hj : j < n) (hp : pr st p = false) (hs : Start n i s) : NextIs n st i p := by
  obtain ⟨⟨h1, h2, h3⟩, h4⟩ := h
  rcases hs with hs | ⟨rfl, hs⟩
  · rcases h4 with ⟨a, b⟩ | ⟨a, b, c⟩
    · exact .inl ⟨p, rfl, h1, hp, (hs p).2 (by omega), fun j hj hi => b j ((hs j).1 hi) hj⟩
    · exact .inr (.inl ⟨p, rfl, h1, hp, fun j hj hi => b j ((hs j).1 hi) hj, c⟩)
  · rcases h4 with ⟨a, b⟩ | ⟨a, b, c⟩
    · exact .inr (.inl ⟨p, rfl, h1, hp, fun j hj hi => absurd hi (hs j hj), fun j hj => b j (by omega) hj⟩)
    · omega
theorem SeekAt.end {n : Nat} {st : St} {s p : Nat} {i : Int} (h : SeekAt n st s n p) : NextIs n st i (-1) := by
  obtain ⟨⟨h1, h2, h3⟩, h4⟩ := h
  rcases h4 with ⟨a, b⟩ | ⟨a, b, c⟩
  · omega
  · refine .inr (.inr ⟨rfl, fun j hj => ?_⟩)
    rcases Nat.lt_or_ge j s with h | h
    · exact c j (by omega)
    · exact b j h hj
/-- None misses. -/
theorem all_pr {h : Hd} {st : St} (hl : st.length = h.cnt) (h0 : missS h st = 0) : ∀ j : Nat, j < h.cnt → pr st j = true := by
  intro j hj
  have hc : cntS st = st.length := by unfold missS at h0; omega
  have := List.countP_eq_length.1 hc st[j] (List.getElem_mem (by omega))
  unfold pr elF
  rw [if_neg (by omega), show ((j : Int)).toNat = j from by omega, List.getElem?_eq_getElem (by omega)]
  exact this
def RetNext (n : Nat) (st : St) (i : Int) (w : World) : Ending → World → Prop := fun e w' => ∃ r : Int, e = .returned (.int .i64 r) ∧ NextIs n st i r ∧ Below w.heap.size w w'
theorem next_nil (w : World) (i : Int) : Calls Try.prog 13 #[.pointer none, .int .i64 i] w fun e w' => e = .returned (.int .i64 (-1)) ∧ w = w' := by
  go_enter Try.func13, Try.ntmps13
  go_wp2_with fail
  refine (missing_nil w).mono ?_
  rintro e w1 ⟨rfl, rfl⟩
  go_wp2
  go_ret
  exact ⟨rfl, rfl⟩
set_option maxHeartbeats 2000000 in
theorem heap_next (w : World) (bh bm : Nat) (F : Nat → Prop) (h : Hd) (st : St) (i : Int) (hi64 : I64h i) (H : HeapAt w bh bm F h st) :
    Calls Try.prog 13 #[.pointer (some ⟨bh, 0, none⟩), .int .i64 i] w (RetNext h.cnt st i w) := by
  obtain ⟨i0, hi0⟩ : ∃ i0, i0 = i := ⟨i, rfl⟩
  rw [show RetNext h.cnt st i w = RetNext h.cnt st i0 w from by rw [hi0]]
  replace hi0 := Lib.hid hi0
  obtain ⟨m1, m2⟩ := cntS_le H
  have hlen := H.len
  generalize hm : missS h st = m
  replace hlen := Lib.hid hlen; replace hm := Lib.hid hm; replace H := Lib.hid H
  unfold I64h at hi64
  by_cases hm0 : m = 0
  · have hall := Lib.hid (all_pr hlen.out (hm.out.trans hm0))
    subst hm0
    go_enter Try.func13, Try.ntmps13
    go_wp2_with fail
    refine (heap_missing w bh bm F h st H.out).mono ?_
    rintro e w1 ⟨rfl, hb1⟩
    rw [hm.out]
    go_wp2
    go_ret
    exact ⟨_, rfl, .inr (.inr ⟨rfl, hall.out⟩), hb1⟩
  · have hi3 : (i < 0 ∨ (h.cnt : Int) ≤ i) ∨ ∃ k : Nat, i = k ∧ k < h.cnt := by
      by_cases h1 : i < 0 ∨ (h.cnt : Int) ≤ i
      · exact .inl h1
      · exact .inr ⟨i.toNat, by omega, by omega⟩
    have hmb : (m == 0) = false := by simpa using hm0
    have hcp : 0 < h.cnt := by have := hm.out; unfold missS at this; omega
    replace hm0 := Lib.hid hm0
    generalize hn : h.cnt = n at *
    replace hn := Lib.hid hn
    go_enter Try.func13, Try.ntmps13
    go_wp2_with fail
    refine (heap_missing w bh bm F h st H.out).mono ?_
    rintro e w1 ⟨rfl, hb1⟩
    rw [hm.out]
    have H1 := H.out.below hb1
    obtain ⟨c0, c1, c2, c3⟩ := H1.cells
    replace hb1 := Lib.hid hb1; replace H1 := Lib.hid H1
    go_wp2_with fail
    refine (head_count w1 h).mono ?_
    rintro e w2 ⟨rfl, hb2⟩
    rw [hn.out]
    have H2 := H1.out.below hb2
    obtain ⟨d0, d1, d2, d3⟩ := H2.cells
    have hb02 := Below.step hb1.out hb2
    clear c0 c1 c2 c3
    replace hb2 := Lib.hid hb2; replace H2 := Lib.hid H2; replace hb02 := Lib.hid hb02
    obtain ⟨g, hg, hgr⟩ := H2.out.map
    replace hg := Lib.hid hg; replace hgr := Lib.hid hgr
    have hi0' := hi0.out
    have hst : Hid (∃ s : Nat, s < n ∧ Start n i0 s ∧ ((i < 0 ∧ s = 0) ∨ ((n : Int) ≤ i ∧ s = 0) ∨ (0 ≤ i ∧ i < n ∧ i = s))) := Lib.hid (by
      subst hi0'
      rcases hi3 with (h1 | h1) | ⟨k, rfl, h1⟩
      · exact ⟨0, hcp, .inl (fun k => by omega), .inl ⟨h1, rfl⟩⟩
      · exact ⟨0, hcp, .inr ⟨rfl, fun k hk => by omega⟩, .inr (.inl ⟨h1, rfl⟩)⟩
      · exact ⟨k, h1, .inl (fun j => by omega), .inr (.inr ⟨by omega, by omega, rfl⟩)⟩)
    clear hi3 hi0'
    obtain ⟨s, hs1, hs2, ⟨h1, rfl⟩ | ⟨h1, rfl⟩ | ⟨h1, h2, rfl⟩⟩ := hst.out
    all_goals
      replace hs2 := Lib.hid hs2
      go_wp2
      go_loop [1, 6, 7, 22] (fun a _ _ b => ∃ s p j : Nat, Hid (Start n i0 s) ∧ Hid (SeekAt n st s j p) ∧ p < n ∧ j ≤ n ∧ a = .int .i64 p ∧ b = .int .i64 j) (fun _ _ _ b => n - (intOf b).toNat)
      case atStart => exact ⟨_, _, 0, hs2, Lib.hid (SeekAt.start hs1), hs1, by omega, rfl, rfl⟩
      case round =>
        obtain ⟨s', p, j, hS, hK, hp, hj, rfl, rfl⟩ := hrel
        by_cases hlt : j < n
        · have hlk := hg.out.look_ok Try.underlying59 (zeroSB w2) (p : Int) (by show -9223372036854775808 ≤ (p : Int) ∧ (p : Int) ≤ 9223372036854775807; omega)
          change (Instr.lookup _ _ (.int .i64 (p : Int)) true).run _ _ = _ at hlk
          rcases hgr.out p with ⟨a, b⟩ | ⟨l, u, a, b, hr⟩
          · rw [b] at hlk
            simp only [Option.getD_none, Option.isSome_none] at hlk
            have hp0 : pr st p = false := by unfold pr; rw [a]; rfl
            replace a := Lib.hid a; replace b := Lib.hid b; replace hp0 := Lib.hid hp0
            go_wp2
            go_ret
            exact ⟨_, rfl, hK.out.here hlt hp0.out hS.out, hb02.out⟩
          · rw [b] at hlk
            simp only [Option.getD_some, Option.isSome_some] at hlk
            have hp1 : pr st p = true := by unfold pr; rw [a]; rfl
            obtain ⟨A2, n2, c2', rfl⟩ := hr.shp
            have hK' := hK.out.step hlt hp1
            replace a := Lib.hid a; replace b := Lib.hid b; replace hp1 := Lib.hid hp1; replace hr := Lib.hid hr
            by_cases hpe : p + 1 = n
            · rw [if_pos hpe] at hK'
              have hpb : ((p : Int) + 1 == (n : Int)) = true := by simp only [beq_iff_eq]; omega
              replace hpe := Lib.hid hpe
              go_wp2
              exact ⟨⟨s', 0, j + 1, hS, Lib.hid hK', by omega, by omega, rfl, by go_num⟩, by simp [intOf]; omega⟩
            · rw [if_neg hpe] at hK'
              have hpb : ((p : Int) + 1 == (n : Int)) = false := by simp only [beq_eq_false_iff_ne, ne_eq]; omega
              replace hpe := Lib.hid hpe
              go_wp2
              exact ⟨⟨s', p + 1, j + 1, hS, Lib.hid hK', by have := hpe.out; omega, by omega, by go_num, by go_num⟩, by simp [intOf]; omega⟩
        · obtain rfl : j = n := by omega
          have hE := Lib.hid (hK.out.end (i := i0))
          go_wp2
          go_ret
          exact ⟨_, rfl, hE.out, hb02.out⟩
def catS (st : St) : List UInt8 := st.flatMap (fun o => o.getD [])
/-- All bytes, and the error. -/
def wholeS (h : Hd) (st : St) : List UInt8 × Int := if 0 < missS h st then ([], 41) else if digOf (catS st) = h.D then (catS st, 0) else ([], 12)
def RetWhole (r : List UInt8 × Int) (w : World) : Ending → World → Prop := fun e w' => ∃ v, e = .returned (.tuple #[v, .int .i64 r.2]) ∧ Below w.heap.size w w' ∧ Own encB 5 w' w.heap.size v r.1
theorem catS_snoc {st : St} {k : Nat} {l : List UInt8} (h : st[k]? = some (some l)) : catS (st.take (k + 1)) = catS (st.take k) ++ l := by
  unfold catS
  rw [take_snoc_get h, List.flatMap_append]
  simp
theorem catS_len {st : St} (h : ∀ l, some l ∈ st → l.length ≤ 512) : ∀ k, (catS (st.take k)).length ≤ 512 * k := by
  intro k
  induction k with
  | zero => simp [catS]
  | succ k ih =>
    rcases Nat.lt_or_ge k st.length with hk | hk
    · obtain ⟨x, hx⟩ := get_some_of_lt hk
      unfold catS at *
      rw [take_snoc_get hx, List.flatMap_append]
      cases x with
      | none => simp at ih ⊢; omega
      | some l => have := h l (List.mem_of_getElem? hx); simp at ih ⊢; omega
    · rw [List.take_of_length_le (by omega)]
      rw [List.take_of_length_le (by omega)] at ih
      omega
set_option maxHeartbeats 4000000 in
theorem heap_bytes (w : World) (bh bm : Nat) (F : Nat → Prop) (h : Hd) (st : St) (H : HeapAt w bh bm F h st) :
    Calls Try.prog 17 #[.pointer (some ⟨bh, 0, none⟩)] w (RetWhole (wholeS h st) w) := by
  obtain ⟨m1, m2⟩ := cntS_le H
  have hlen := H.len
  have hw : wholeS h st = if 0 < missS h st then ([], 41) else if digOf (catS st) = h.D then (catS st, 0) else ([], 12) := rfl
  generalize hr : wholeS h st = r at *
  have hmv : missS h st = (h.cnt : Int) - (cntS st : Int) := rfl
  have hmn : 0 ≤ missS h st := by omega
  generalize hm : missS h st = m at *
  have hcl := fun k => catS_len H.small k
  replace hlen := Lib.hid hlen; replace hm := Lib.hid hm; replace H := Lib.hid H; replace hr := Lib.hid hr; replace hmv := Lib.hid hmv; replace hcl := Lib.hid hcl
  by_cases hm0 : 0 < m
  · rw [if_pos hm0] at hw
    subst hw
    go_enter Try.func17, Try.ntmps17
    go_wp2_with fail
    refine (heap_missing w bh bm F h st H.out).mono ?_
    rintro e w1 ⟨rfl, hb1⟩
    rw [hm.out]
    go_wp2
    go_ret2
    exact ⟨_, rfl, hb1, Own.nil _ _ _ _⟩
  · rw [if_neg hm0] at hw
    have hall : Hid (∀ j : Nat, j < h.cnt → pr st j = true) := Lib.hid (all_pr hlen.out (by have := hm.out; omega))
    generalize hn : h.cnt = n at *
    replace hn := Lib.hid hn; replace hw := Lib.hid hw
    go_enter Try.func17, Try.ntmps17
    go_wp2_with fail
    refine (heap_missing w bh bm F h st H.out).mono ?_
    rintro e w1 ⟨rfl, hb1⟩
    rw [hm.out]
    have H1 := H.out.below hb1
    obtain ⟨c0, c1, c2, c3⟩ := H1.cells
    replace hb1 := Lib.hid hb1; replace H1 := Lib.hid H1
    go_wp2_with fail
    refine (head_count w1 h).mono ?_
    rintro e w2 ⟨rfl, hb2⟩
    rw [hn.out]
    have H2 := H1.out.below hb2
    have hb02 := Below.step hb1.out hb2
    clear c0 c1 c2 c3
    replace hb2 := Lib.hid hb2; replace H2 := Lib.hid H2; replace hb02 := Lib.hid hb02
    go_wp2
    go_loopw [4, 5, 18] (fun v _ i W => ∃ k : Nat, k ≤ n ∧ i = .int .i64 k ∧ Below w2.heap.size w2 W ∧ Own encB 5 W w2.heap.size v (catS (st.take k))) (fun _ _ i _ => n - (intOf i).toNat)
    case atStart => exact ⟨0, Nat.zero_le _, rfl, Below.refl _ _, Own.nil _ _ _ _⟩
    case round =>
      obtain ⟨k, hk, rfl, hB, hown⟩ := hrel
      have HW := H2.out.below hB
      obtain ⟨d0, d1, d2, d3⟩ := HW.cells
      obtain ⟨A, n0, c0, rfl⟩ := hown.row.shp
      by_cases hlt : k < n
      · obtain ⟨g, hg, hgr⟩ := HW.map
        have hlk := hg.look Try.underlying59 (zeroSB wr) (k : Int) (by show -9223372036854775808 ≤ (k : Int) ∧ (k : Int) ≤ 9223372036854775807; omega)
        change (Instr.lookup _ _ (.int .i64 (k : Int)) false).run _ _ = _ at hlk
        have hp := hall.out k hlt
        obtain ⟨a, b⟩ | ⟨l, u, a, b, hr⟩ := hgr k
        · unfold pr at hp; rw [a] at hp; cases hp
        rw [b] at hlk
        simp only [Option.getD_some] at hlk
        have hu := hr.src
        obtain ⟨A2, n2, c2', rfl⟩ := hr.shp
        have hst := (elF_ok a).2.2
        rw [show ((k : Int)).toNat = k from by omega] at hst
        have hl5 := H.out.small l (List.mem_of_getElem? hst)
        have hby : ((catS (st.take k)).length + l.length) * 1 ≤ 140737488355328 := by have := hcl.out k; omega
        have hsz : w2.heap.size ≤ wr.heap.size := hB.size
        have hsn := catS_snoc hst
        replace hu := Lib.hid hu; replace hst := Lib.hid hst; replace hby := Lib.hid hby; replace hsz := Lib.hid hsz; replace hsn := Lib.hid hsn; replace hg := Lib.hid hg; replace hgr := Lib.hid hgr; replace a := Lib.hid a; replace b := Lib.hid b; replace hr := Lib.hid hr; replace hp := Lib.hid hp; replace HW := Lib.hid HW; replace hown := Lib.hid hown
        go_wp2_with (at_builtin; go_must (refine wp_app_own (fun _ => rfl) elB elB.t (by simp) hown.out hu.out hby.out hsz.out rfl _ _ rfl rfl rfl ?_); rintro v' w3 ha; replace ha := Lib.hid ha)
        have ha := ha.out
        exact ⟨⟨k + 1, by omega, by go_num, hB.trans (ha.keep.belowB hsz.out (fun b hb he => by have := (hown.out.lt b he).1; omega)), by rw [hsn.out]; exact ha.own⟩, by simp [intOf]; omega⟩
      · obtain rfl : k = n := by omega
        have e : st.take k = st := List.take_of_length_le (by have := hlen.out; omega)
        rw [e] at hown
        generalize hcs : catS st = cs at *
        have hbd : Below wr.heap.size wr wr.drew := (Below.refl _ wr).drew
        have hrow := (hown.row.inside).below hbd
        have hb0 := hb02.out.trans (hB.mono hb02.out.size)
        have hoo := hown.base_ hb02.out.size
        have hwv := hw.out
        by_cases hd : digOf cs = h.D
        · have hdb : (digOf cs != h.D) = false := by simpa using hd
          rw [if_pos hd] at hwv
          replace hwv := Lib.hid hwv; replace hd := Lib.hid hd; replace HW := Lib.hid HW; replace hown := Lib.hid hown; replace hbd := Lib.hid hbd; replace hrow := Lib.hid hrow; replace hb0 := Lib.hid hb0; replace hoo := Lib.hid hoo; replace e := Lib.hid e
          go_wp2
          go_region_with (go_at_call 32; refine (digest_of _ _ _ cs hrow.out (by intro b hb; exact hb.2)).mono ?_; rintro e w3 ⟨rfl, hb3⟩; have d2' := (HW.out.below (hbd.out.trans hb3)).cells.2.2.1; replace hb3 := Lib.hid hb3)
          all_goals
            go_wp2
            go_ret2
            rw [hwv.out]
            have hb3' : Below wr.heap.size wr w3 := hbd.out.trans hb3.out
            exact ⟨_, rfl, hb0.out.trans (hb3'.mono hb0.out.size), hoo.out.below hb3'⟩
        · have hdb : (digOf cs != h.D) = true := by simpa using hd
          rw [if_neg hd] at hwv
          replace hwv := Lib.hid hwv; replace hd := Lib.hid hd; replace HW := Lib.hid HW; replace hown := Lib.hid hown; replace hbd := Lib.hid hbd; replace hrow := Lib.hid hrow; replace hb0 := Lib.hid hb0; replace hoo := Lib.hid hoo; replace e := Lib.hid e
          go_wp2
          go_region_with (go_at_call 32; refine (digest_of _ _ _ cs hrow.out (by intro b hb; exact hb.2)).mono ?_; rintro e w3 ⟨rfl, hb3⟩; have d2' := (HW.out.below (hbd.out.trans hb3)).cells.2.2.1; replace hb3 := Lib.hid hb3)
          all_goals
            go_wp2
            go_ret2
            rw [hwv.out]
            have hb3' : Below wr.heap.size wr w3 := hbd.out.trans hb3.out
            exact ⟨_, rfl, hb0.out.trans (hb3'.mono hb0.out.size), Own.nil _ _ _ _⟩
end Go.Proofs.Ytbgkohfifcfofaa
