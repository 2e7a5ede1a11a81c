/- Heaps of chunks: the program's. -/
import Derived.Test.YtbgkohfifcfofaaCutW
import Derived.Test.YtbgkohfifcfofaaMap
import Derived.Deep.RegionWith
import Derived.Deep.DeepCutAuto
set_option linter.unusedVariables false
set_option linter.unusedSimpArgs false
set_option maxRecDepth 100000
open Go.RowKit
namespace Go.Proofs.Ytbgkohfifcfofaa
open Go.Proofs

/-- Two strings told apart. -/
theorem str_eql {P : Program} (t : TypeId) (xs ys : List UInt8) (W : World) : (binOp .eql t (.string ⟨xs.toArray⟩) (.string ⟨ys.toArray⟩)).run P W = .ok (.bool (xs == ys)) W := by
  rw [binOp_string_eql]
  have e : ∀ l : List UInt8, (⟨l.toArray⟩ : ByteArray).toList = l := by intro l; simp
  rw [e, e]
  rfl
theorem bytes_equal (w : World) (F G : Nat → Prop) (v u : Value) (xs ys : List UInt8) (hx : Row encB w F v xs) (hy : Row encB w G u ys) :
    Calls Try.prog 29 #[v, u] w fun e w' => e = .returned (.bool (xs == ys)) ∧ w = w' := by
  have c1 := hx.str (src := 22) (dst := 9) Try.underlying22 Try.underlying5 Try.underlying9
  have c2 := hy.str (src := 22) (dst := 9) Try.underlying22 Try.underlying5 Try.underlying9
  have c3 := str_eql (P := Try.prog) 9 xs ys
  obtain ⟨A, n, c, rfl⟩ := hx.shp
  obtain ⟨B, m, d, rfl⟩ := hy.shp
  replace hx := Lib.hid hx; replace hy := Lib.hid hy
  go_enter Try.func29, Try.ntmps29
  go_wp2
  go_ret
  exact ⟨rfl, rfl⟩
noncomputable def KI : KeyI Try.prog 3 Int := keyInt Try.underlying3
theorem zeroSB (w : World) : (zeroValue 22).run Try.prog w = .ok (.slice none 0 0) w := by kernel_rfl
/-- The state: each chunk, or nothing. -/
abbrev St := List (Option (List UInt8))
def elF (st : St) (k : Int) : Option (List UInt8) := if k < 0 then none else (st[k.toNat]?).join
def cntS (st : St) : Nat := st.countP (·.isSome)
structure HeapAt (w : World) (bh bm : Nat) (F : Nat → Prop) (h : Hd) (st : St) : Prop where
  head : w.heap[bh]? = some (.cells #[.int .i64 h.L, .int .i64 h.S, .int .i64 h.D, .map (some bm)] 61 (0, 0))
  len : st.length = h.cnt
  small : ∀ l, some l ∈ st → l.length ≤ 512
  map : ∃ g, MapIs KI w bm g (cntS st) ∧ ∀ k : Int, (elF st k = none ∧ g k = none) ∨ ∃ l v, elF st k = some l ∧ g k = some v ∧ Row encB w F v l
  ne : bh ≠ bm
  nF : ¬ F bh ∧ ¬ F bm
  lt : ∀ b, F b → b < w.heap.size
theorem HeapAt.lts {w : World} {bh bm : Nat} {F : Nat → Prop} {h : Hd} {st : St} (H : HeapAt w bh bm F h st) : bh < w.heap.size ∧ bm < w.heap.size := by
  obtain ⟨g, hg, _⟩ := H.map
  exact ⟨lt_of_get H.head, hg.lt⟩
theorem HeapAt.keep {w w1 : World} {S : Nat → Prop} {bh bm : Nat} {F : Nat → Prop} {h : Hd} {st : St} (H : HeapAt w bh bm F h st) (hk : Keeps S w w1) (h1 : ¬ S bh) (h2 : ¬ S bm) (hF : ∀ b, F b → ¬ S b) : HeapAt w1 bh bm F h st := by
  obtain ⟨g, hg, hr⟩ := H.map
  refine ⟨hk.get H.head h1, H.len, H.small, ⟨g, hg.keep hk h2, fun k => ?_⟩, H.ne, H.nF, fun b hb => Nat.lt_of_lt_of_le (H.lt b hb) hk.size⟩
  rcases hr k with h | ⟨l, v, a, b, c⟩
  · exact .inl h
  · exact .inr ⟨l, v, a, b, c.keep hk hF⟩
theorem HeapAt.below {w w1 : World} {bh bm : Nat} {F : Nat → Prop} {h : Hd} {st : St} (H : HeapAt w bh bm F h st) (hk : Below w.heap.size w w1) : HeapAt w1 bh bm F h st :=
  H.keep (Keeps.of_below hk NoB) (fun h => h) (fun h => h) (fun _ _ h => h)
theorem HeapAt.cells {w : World} {bh bm : Nat} {F : Nat → Prop} {h : Hd} {st : St} (H : HeapAt w bh bm F h st) :
    w.cell? ⟨bh, 0, none⟩ = some (.int .i64 h.L) ∧ w.cell? ⟨bh, 1, none⟩ = some (.int .i64 h.S) ∧ w.cell? ⟨bh, 2, none⟩ = some (.int .i64 h.D) ∧ w.cell? ⟨bh, 3, none⟩ = some (.map (some bm)) :=
  ⟨cell_of_get H.head rfl, cell_of_get H.head rfl, cell_of_get H.head rfl, cell_of_get H.head rfl⟩
theorem elF_ok {st : St} {k : Int} {l : List UInt8} (h : elF st k = some l) : 0 ≤ k ∧ k < st.length ∧ st[k.toNat]? = some (some l) := by
  unfold elF at h
  split at h
  · cases h
  · have h2 : st[k.toNat]? = some (some l) := by
      cases hk : st[k.toNat]? with
      | none => rw [hk] at h; cases h
      | some x => rw [hk] at h; simp at h; rw [h]
    have := (List.getElem?_eq_some_iff.1 h2).1
    exact ⟨by omega, by omega, h2⟩
theorem HeapAt.made {w : World} {h : Hd} {bm : Nat} (hm : MapIs KI w bm (fun _ => none) 0) :
    HeapAt (w.alloc (.cells #[.int .i64 h.L, .int .i64 h.S, .int .i64 h.D, .map (some bm)] 61)) w.heap.size bm (fun _ => False) h (List.replicate h.cnt none) where
  head := heap_alloc_new w _
  len := by simp
  small := by intro l hl; have := List.eq_of_mem_replicate hl; cases this
  map := by
    refine ⟨_, ?_, fun k => .inl ⟨?_, rfl⟩⟩
    · have := hm.below ((Below.refl _ w).alloc (Nat.le_refl _) (.cells #[.int .i64 h.L, .int .i64 h.S, .int .i64 h.D, .map (some bm)] 61))
      simpa [cntS, List.countP_replicate] using this
    · cases he : elF (List.replicate h.cnt none) k with
      | none => rfl
      | some l =>
        have := List.mem_of_getElem? (elF_ok he).2.2
        have := List.eq_of_mem_replicate this
        cases this
  ne := by have := hm.lt; omega
  nF := ⟨fun h => h, fun h => h⟩
  lt := fun b h => h.elim
def RetNew (h : Hd) (w : World) : Ending → World → Prop := fun e w' => ∃ bh bm, e = .returned (.tuple #[.pointer (some ⟨bh, 0, none⟩), .int .i64 0]) ∧ Below w.heap.size w w' ∧ w.heap.size ≤ bh ∧ w.heap.size ≤ bm ∧ HeapAt w' bh bm (fun _ => False) h (List.replicate h.cnt none)
theorem heap_new_no (w : World) (h : Hd) (hr : h.right = false) :
    Calls Try.prog 9 #[h.v] w (RetB (.tuple #[.pointer none, .int .i64 2]) w) := by
  unfold Hd.v
  go_enter Try.func9, Try.ntmps9
  go_wp2_with fail
  refine (head_right _ h).mono ?_
  rintro e w1 ⟨rfl, hb1⟩
  go_wp2
  go_ret2
  exact ⟨rfl, Below.step ((Below.refl _ w).alloc (Nat.le_refl _) _) hb1⟩
theorem heap_new (w : World) (h : Hd) (hr : h.right = true) : Calls Try.prog 9 #[h.v] w (RetNew h w) := by
  have hmm := @run_makeMap Try.prog
  unfold Hd.v
  go_enter Try.func9, Try.ntmps9
  go_wp2_with fail
  refine (head_right _ h).mono ?_
  rintro e w1 ⟨rfl, hb1⟩
  have hc0 := hb1.cell (p := ⟨w.heap.size, 0, none⟩) (by simp)
  have hc1 := hb1.cell (p := ⟨w.heap.size, 1, none⟩) (by simp)
  have hc2 := hb1.cell (p := ⟨w.heap.size, 2, none⟩) (by simp)
  simp at hc0 hc1 hc2
  have hM : MapIs KI (w1.alloc (.map #[] 0)) w1.heap.size (fun _ => none) 0 := MapIs.made w1
  have hb01 : Below w.heap.size w w1 := Below.step ((Below.refl _ w).alloc (Nat.le_refl _) _) hb1
  have hb02 : Below w.heap.size w (w1.alloc (.map #[] 0)) := hb01.alloc hb01.size _
  replace hM := Lib.hid hM; replace hb01 := Lib.hid hb01; replace hb02 := Lib.hid hb02; replace hb1 := Lib.hid hb1
  go_wp2
  go_ret2
  have hsz := hb01.out.size
  exact ⟨w1.heap.size + 1, w1.heap.size, rfl, hb02.out.alloc hb02.out.size _, by omega, hsz, by have := HeapAt.made (h := h) hM.out; simpa using this⟩
/-- A chunk is put: the error, and the state behind it. -/
def putS (h : Hd) (st : St) (i : Int) (c : List UInt8) : Int × St :=
  if h.len i < 0 then (37, st) else if (c.length : Int) ≠ h.len i then (13, st) else
  match elF st i with
  | some d => if d == c then (0, st.set i.toNat (some c)) else (41, st)
  | none => (0, st.set i.toNat (some c))
def RetPut (bh bm : Nat) (F : Nat → Prop) (h : Hd) (r : Int × St) (w : World) : Ending → World → Prop := fun e w' => e = .returned (.int .i64 r.1) ∧ Keeps (fun b => b = bm) w w' ∧ ∃ F' : Nat → Prop, HeapAt w' bh bm F' h r.2 ∧ ∀ b, F' b → F b ∨ w.heap.size ≤ b
theorem len_range (h : Hd) (i : Int) (hn : ¬ h.len i < 0) : 0 ≤ i ∧ i < h.cnt ∧ h.len i ≤ 512 ∧ h.right = true := by
  by_cases hi : i < 0 ∨ (h.cnt : Int) ≤ i
  · rw [Hd.len_no i hi] at hn; omega
  · cases hr : h.right with
    | false => have := Hd.cnt_no hr; omega
    | true =>
      obtain ⟨_, _, _, a3, _⟩ := Hd.len_alt hr i (by omega) (by omega)
      have := ((Hd.right_iff _).1 hr).2.2.2.1
      exact ⟨by omega, by omega, by omega, rfl⟩
theorem elF_set {st : St} {i : Int} (h0 : 0 ≤ i) (hi : i < st.length) (c : List UInt8) (k : Int) : elF (st.set i.toNat (some c)) k = if k = i then some c else elF st k := by
  unfold elF
  by_cases hk : k < 0
  · rw [if_pos hk, if_pos hk, if_neg (by omega)]
  · rw [if_neg hk, if_neg hk]
    by_cases he : k = i
    · subst he
      rw [if_pos rfl, List.getElem?_set_self (by omega)]
      rfl
    · rw [if_neg he, List.getElem?_set_ne (by omega)]
theorem cntS_set {st : St} {i : Int} (h0 : 0 ≤ i) (hi : i < st.length) (c : List UInt8) : cntS (st.set i.toNat (some c)) = if (elF st i).isSome then cntS st else cntS st + 1 := by
  have hlt : i.toNat < st.length := by omega
  have he : elF st i = st[i.toNat] := by
    unfold elF
    rw [if_neg (by omega), List.getElem?_eq_getElem hlt]
    rfl
  unfold cntS
  rw [he, List.countP_set hlt]
  cases hx : st[i.toNat] with
  | none => simp
  | some d =>
    have : 0 < List.countP (fun x => x.isSome) st := by
      rw [List.countP_pos_iff]
      exact ⟨st[i.toNat], List.getElem_mem hlt, by rw [hx]; rfl⟩
    simp
    omega
/-- What the store leaves. -/
theorem HeapAt.put {w1 w2 w3 : World} {bh bm : Nat} {F : Nat → Prop} {h : Hd} {st : St} (H : HeapAt w1 bh bm F h st) {i : Int} (h0 : 0 ≤ i) (hi : i < h.cnt) {c : List UInt8} (hc : c.length ≤ 512) {v : Value} (hv : Own encB 5 w2 w1.heap.size v c)
    {g : Int → Option Value} (hg : MapIs KI w2 bm g (cntS st)) (hgr : ∀ k : Int, (elF st k = none ∧ g k = none) ∨ ∃ l v, elF st k = some l ∧ g k = some v ∧ Row encB w1 F v l) (hb : Below w1.heap.size w1 w2)
    (hm : MapIs KI w3 bm (fun k => if k = i then some v else g k) (if (g i).isSome then cntS st else cntS st + 1)) (hk : Keeps (fun b => b = bm) w2 w3) :
    HeapAt w3 bh bm (fun b => F b ∨ (w1.heap.size ≤ b ∧ b < w2.heap.size)) h (st.set i.toNat (some c)) := by
  have hlt : i < st.length := by rw [H.len]; omega
  have hls := H.lts
  have hgi : (g i).isSome = (elF st i).isSome := by
    rcases hgr i with ⟨a, b⟩ | ⟨l, u, a, b, _⟩
    · rw [a, b]; rfl
    · rw [a, b]; rfl
  refine ⟨hk.get ((hb.block _ hls.1).trans H.head) H.ne, by rw [List.length_set, H.len], ?_, ⟨fun k => if k = i then some v else g k, ?_, fun k => ?_⟩, H.ne, ⟨?_, ?_⟩, ?_⟩
  · intro l hl
    rcases List.mem_or_eq_of_mem_set hl with h1 | h1
    · exact H.small l h1
    · cases h1; exact hc
  · rw [cntS_set h0 hlt, ← hgi]; exact hm
  · rw [elF_set h0 hlt]
    by_cases hki : k = i
    · right
      simp only [hki, if_true]
      exact ⟨c, v, rfl, rfl, ((hv.row.inside).keep hk (fun b hb => by omega)).mono (fun b hb => .inr hb)⟩
    · simp only [hki, if_false]
      rcases hgr k with h1 | ⟨l, u, a, b, hr⟩
      · exact .inl h1
      · exact .inr ⟨l, u, a, b, ((hr.below hb).keep hk (fun b hb he => H.nF.2 (he ▸ hb))).mono (fun b hb => .inl hb)⟩
  · rintro (h1 | h1)
    · exact H.nF.1 h1
    · omega
  · rintro (h1 | h1)
    · exact H.nF.2 h1
    · omega
  · rintro b (h1 | h1)
    · have := H.lt b h1; have := hb.size; have := hk.size; omega
    · have := hk.size; omega
theorem heap_put_nil (w : World) (i : Int) (v : Value) :
    Calls Try.prog 11 #[.pointer none, .int .i64 i, v] w fun e w' => e = .returned (.int .i64 1) ∧ w = w' := by
  go_enter Try.func11, Try.ntmps11
  go_wp2
  go_ret
  exact ⟨rfl, rfl⟩
set_option maxHeartbeats 2000000 in
theorem heap_put_range (w : World) (bh bm : Nat) (F G : Nat → Prop) (h : Hd) (st : St) (i : Int) (hi64 : I64h i) (v : Value) (c : List UInt8) (H : HeapAt w bh bm F h st) (hv : Row encB w G v c) (hneg : h.len i < 0) :
    Calls Try.prog 11 #[.pointer (some ⟨bh, 0, none⟩), .int .i64 i, v] w (RetPut bh bm F h (37, st) w) := by
  obtain ⟨c0, c1, c2, c3⟩ := H.cells
  generalize hln : h.len i = ln at *
  obtain ⟨A, n0, cc, rfl⟩ := hv.shp
  have hn0 : n0 = c.length := hv.len.1
  subst hn0
  obtain ⟨g, hg, hgr⟩ := H.map
  replace hgr := Lib.hid hgr; replace hln := Lib.hid hln; replace hv := Lib.hid hv; replace H := Lib.hid H
  go_enter Try.func11, Try.ntmps11
  go_wp2_with fail
  refine (head_length w h i).mono ?_
  rintro e w1 ⟨rfl, hb1⟩
  rw [hln.out]
  have H1 := H.out.below hb1
  have d3 := H1.cells.2.2.2
  have hg1 := hg.below hb1
  have hlk := hg1.look_ok Try.underlying59 (zeroSB w1) i hi64
  change (Instr.lookup _ _ (.int .i64 i) true).run _ _ = _ at hlk
  replace hb1 := Lib.hid hb1; replace H1 := Lib.hid H1; replace hg1 := Lib.hid hg1
  go_wp2
  go_ret
  exact ⟨rfl, Keeps.of_below hb1.out _, F, H1.out, fun b hb => .inl hb⟩
set_option maxHeartbeats 2000000 in
theorem heap_put_long (w : World) (bh bm : Nat) (F G : Nat → Prop) (h : Hd) (st : St) (i : Int) (hi64 : I64h i) (v : Value) (c : List UInt8) (H : HeapAt w bh bm F h st) (hv : Row encB w G v c) (hneg : ¬ h.len i < 0) (hne : (c.length : Int) ≠ h.len i) :
    Calls Try.prog 11 #[.pointer (some ⟨bh, 0, none⟩), .int .i64 i, v] w (RetPut bh bm F h (13, st) w) := by
  obtain ⟨c0, c1, c2, c3⟩ := H.cells
  generalize hln : h.len i = ln at *
  obtain ⟨A, n0, cc, rfl⟩ := hv.shp
  have hn0 : n0 = c.length := hv.len.1
  subst hn0
  obtain ⟨g, hg, hgr⟩ := H.map
  have hnb : ((c.length : Int) != ln) = true := by simpa using hne
  replace hne := Lib.hid hne
  replace hgr := Lib.hid hgr; replace hln := Lib.hid hln; replace hv := Lib.hid hv; replace H := Lib.hid H
  go_enter Try.func11, Try.ntmps11
  go_wp2_with fail
  refine (head_length w h i).mono ?_
  rintro e w1 ⟨rfl, hb1⟩
  rw [hln.out]
  have H1 := H.out.below hb1
  have d3 := H1.cells.2.2.2
  have hg1 := hg.below hb1
  have hlk := hg1.look_ok Try.underlying59 (zeroSB w1) i hi64
  change (Instr.lookup _ _ (.int .i64 i) true).run _ _ = _ at hlk
  replace hb1 := Lib.hid hb1; replace H1 := Lib.hid H1; replace hg1 := Lib.hid hg1
  go_wp2
  go_ret
  exact ⟨rfl, Keeps.of_below hb1.out _, F, H1.out, fun b hb => .inl hb⟩
set_option maxHeartbeats 2000000 in
theorem heap_put_turn (w : World) (bh bm : Nat) (F G : Nat → Prop) (h : Hd) (st : St) (i : Int) (hi64 : I64h i) (v : Value) (c : List UInt8) (H : HeapAt w bh bm F h st) (hv : Row encB w G v c) (hneg : ¬ h.len i < 0) (hne : (c.length : Int) = h.len i) (d : List UInt8) (hd : elF st i = some d) (hdc : (d == c) = false) :
    Calls Try.prog 11 #[.pointer (some ⟨bh, 0, none⟩), .int .i64 i, v] w (RetPut bh bm F h (41, st) w) := by
  obtain ⟨c0, c1, c2, c3⟩ := H.cells
  generalize hln : h.len i = ln at *
  obtain ⟨A, n0, cc, rfl⟩ := hv.shp
  have hn0 : n0 = c.length := hv.len.1
  subst hn0
  obtain ⟨g, hg, hgr⟩ := H.map
  have hnb : ((c.length : Int) != ln) = false := by simpa using hne
  obtain ⟨hd', hu'⟩ | ⟨l, u, hd', hu', hru⟩ := hgr i
  · rw [hd] at hd'; cases hd'
  rw [hd] at hd'
  cases hd'
  have hnt : ¬ ((c.length : Int) < 0) := by omega
  replace hne := Lib.hid hne; replace hd := Lib.hid hd; replace hu' := Lib.hid hu'
  replace hgr := Lib.hid hgr; replace hln := Lib.hid hln; replace hv := Lib.hid hv; replace H := Lib.hid H
  go_enter Try.func11, Try.ntmps11
  go_wp2_with fail
  refine (head_length w h i).mono ?_
  rintro e w1 ⟨rfl, hb1⟩
  rw [hln.out]
  have H1 := H.out.below hb1
  have d3 := H1.cells.2.2.2
  have hg1 := hg.below hb1
  have hlk := hg1.look_ok Try.underlying59 (zeroSB w1) i hi64
  change (Instr.lookup _ _ (.int .i64 i) true).run _ _ = _ at hlk
  rw [hu'.out] at hlk
  simp only [Option.getD_some, Option.isSome_some] at hlk
  have hru1 := hru.below hb1
  have hv1 := hv.out.below hb1
  obtain ⟨A2, n2, c2', rfl⟩ := hru.shp
  replace hru := Lib.hid hru; replace hru1 := Lib.hid hru1; replace hv1 := Lib.hid hv1
  replace hb1 := Lib.hid hb1; replace H1 := Lib.hid H1; replace hg1 := Lib.hid hg1
  go_wp2_with fail
  refine (bytes_equal w1 _ _ _ _ _ _ hru1.out hv1.out).mono ?_
  rintro e w2 ⟨rfl, rfl⟩
  rw [hdc]
  go_wp2
  go_ret
  exact ⟨rfl, Keeps.of_below hb1.out _, F, H1.out, fun b hb => .inl hb⟩
set_option maxHeartbeats 2000000 in
theorem heap_put_new (w : World) (bh bm : Nat) (F G : Nat → Prop) (h : Hd) (st : St) (i : Int) (hi64 : I64h i) (v : Value) (c : List UInt8) (H : HeapAt w bh bm F h st) (hv : Row encB w G v c) (hneg : ¬ h.len i < 0) (hne : (c.length : Int) = h.len i) (hd : elF st i = none) :
    Calls Try.prog 11 #[.pointer (some ⟨bh, 0, none⟩), .int .i64 i, v] w (RetPut bh bm F h (0, st.set i.toNat (some c)) w) := by
  obtain ⟨r1, r2, r3, r4⟩ := len_range h i hneg
  obtain ⟨c0, c1, c2, c3⟩ := H.cells
  generalize hln : h.len i = ln at *
  obtain ⟨A, n0, cc, rfl⟩ := hv.shp
  have hn0 : n0 = c.length := hv.len.1
  subst hn0
  obtain ⟨g, hg, hgr⟩ := H.map
  have hnb : ((c.length : Int) != ln) = false := by simpa using hne
  have hnn : 0 ≤ ln := by omega
  obtain ⟨hd', hu'⟩ | ⟨l, u, hd', hu', hru⟩ := hgr i
  case inr => rw [hd] at hd'; cases hd'
  have hnt : ¬ ((c.length : Int) < 0) := by omega
  have hc5 : c.length ≤ 512 := by omega
  replace hne := Lib.hid hne; replace hd := Lib.hid hd; replace hu' := Lib.hid hu'; replace hd' := Lib.hid hd'
  replace hgr := Lib.hid hgr; replace hln := Lib.hid hln; replace hv := Lib.hid hv; replace H := Lib.hid H
  go_enter Try.func11, Try.ntmps11
  go_wp2_with fail
  refine (head_length w h i).mono ?_
  rintro e w1 ⟨rfl, hb1⟩
  rw [hln.out]
  have H1 := H.out.below hb1
  have d3 := H1.cells.2.2.2
  have hg1 := hg.below hb1
  have hlk := hg1.look_ok Try.underlying59 (zeroSB w1) i hi64
  change (Instr.lookup _ _ (.int .i64 i) true).run _ _ = _ at hlk
  rw [hu'.out] at hlk
  simp only [Option.getD_none, Option.isSome_none] at hlk
  have hv1 := hv.out.below hb1
  replace hv1 := Lib.hid hv1
  replace hb1 := Lib.hid hb1; replace H1 := Lib.hid H1; replace hg1 := Lib.hid hg1
  have hbd : Below w1.heap.size w1 w1.drew := (Below.refl _ w1).drew
  have hgd := hg1.out.below hbd
  have hvd := hv1.out.below hbd
  have hmx : cntS st < maxLen := by
    have h1 : cntS st ≤ st.length := List.countP_le_length
    have h2 := H1.out.len
    have h3 := (Hd.cnt_mul r4).2.2
    have h4 := ((Hd.right_iff _).1 r4).2.1
    simp only [maxLen]
    omega
  replace hmx := Lib.hid hmx; replace hgd := Lib.hid hgd; replace hvd := Lib.hid hvd; replace hbd := Lib.hid hbd
  go_wp2_with fail
  go_region_with (go_at_call 23; refine (clone_B _ _ _ c hvd.out (by omega)).mono ?_; rintro e w2 ⟨u, rfl, hb2, hown2⟩; obtain ⟨A2, n2, c2', rfl⟩ := hown2.row.shp; have hg2 := hgd.out.below hb2; obtain ⟨w3, hst, hm3, hk3⟩ := hg2.store Try.underlying59 i hi64 (.slice A2 n2 c2') hmx.out; change (Instr.mapUpdate _ _ (.int .i64 i) _).run _ _ = _ at hst; have d3' := (H1.out.below (hbd.out.trans hb2)).cells.2.2.2; replace hb2 := Lib.hid hb2; replace hown2 := Lib.hid hown2; replace hg2 := Lib.hid hg2; replace hm3 := Lib.hid hm3; replace hk3 := Lib.hid hk3)
  all_goals
    go_wp2
    go_ret
    have hb12 : Below w1.heap.size w1 w2 := hbd.out.trans hb2.out
    have hHP := H1.out.put r1 r2 hc5 hown2.out hg2.out (g := g) (fun k => by
      rcases hgr.out k with h1 | ⟨l, u, a, b, hr⟩
      · exact .inl h1
      · exact .inr ⟨l, u, a, b, hr.below hb1.out⟩) hb12 hm3.out hk3.out
    refine ⟨rfl, ?_, _, hHP, fun b hb => ?_⟩
    · exact (Keeps.of_below (Below.step hb1.out hb12) (fun b => b = bm)).trans hk3.out (fun _ _ h => h)
    · have := hb1.out.size
      rcases hb with h1 | h1
      · exact .inl h1
      · exact .inr (by omega)
set_option maxHeartbeats 2000000 in
theorem heap_put_same (w : World) (bh bm : Nat) (F G : Nat → Prop) (h : Hd) (st : St) (i : Int) (hi64 : I64h i) (v : Value) (c : List UInt8) (H : HeapAt w bh bm F h st) (hv : Row encB w G v c) (hneg : ¬ h.len i < 0) (hne : (c.length : Int) = h.len i) (d : List UInt8) (hd : elF st i = some d) (hdc : (d == c) = true) :
    Calls Try.prog 11 #[.pointer (some ⟨bh, 0, none⟩), .int .i64 i, v] w (RetPut bh bm F h (0, st.set i.toNat (some c)) w) := by
  obtain ⟨r1, r2, r3, r4⟩ := len_range h i hneg
  obtain ⟨c0, c1, c2, c3⟩ := H.cells
  generalize hln : h.len i = ln at *
  obtain ⟨A, n0, cc, rfl⟩ := hv.shp
  have hn0 : n0 = c.length := hv.len.1
  subst hn0
  obtain ⟨g, hg, hgr⟩ := H.map
  have hnb : ((c.length : Int) != ln) = false := by simpa using hne
  have hnn : 0 ≤ ln := by omega
  obtain ⟨hd', hu'⟩ | ⟨l, u, hd', hu', hru⟩ := hgr i
  · rw [hd] at hd'; cases hd'
  rw [hd] at hd'
  cases hd'
  have hnt : ¬ ((c.length : Int) < 0) := by omega
  have hc5 : c.length ≤ 512 := by omega
  replace hne := Lib.hid hne; replace hd := Lib.hid hd; replace hu' := Lib.hid hu'
  replace hgr := Lib.hid hgr; replace hln := Lib.hid hln; replace hv := Lib.hid hv; replace H := Lib.hid H
  go_enter Try.func11, Try.ntmps11
  go_wp2_with fail
  refine (head_length w h i).mono ?_
  rintro e w1 ⟨rfl, hb1⟩
  rw [hln.out]
  have H1 := H.out.below hb1
  have d3 := H1.cells.2.2.2
  have hg1 := hg.below hb1
  have hlk := hg1.look_ok Try.underlying59 (zeroSB w1) i hi64
  change (Instr.lookup _ _ (.int .i64 i) true).run _ _ = _ at hlk
  rw [hu'.out] at hlk
  simp only [Option.getD_some, Option.isSome_some] at hlk
  have hru1 := hru.below hb1
  obtain ⟨A4, n4, c4, rfl⟩ := hru.shp
  replace hru := Lib.hid hru; replace hru1 := Lib.hid hru1
  have hv1 := hv.out.below hb1
  replace hv1 := Lib.hid hv1
  replace hb1 := Lib.hid hb1; replace H1 := Lib.hid H1; replace hg1 := Lib.hid hg1
  go_wp2_with fail
  refine (bytes_equal w1 _ _ _ _ _ _ hru1.out hv1.out).mono ?_
  rintro e wq ⟨rfl, rfl⟩
  rw [hdc]
  have hbd : Below w1.heap.size w1 w1.drew := (Below.refl _ w1).drew
  have hgd := hg1.out.below hbd
  have hvd := hv1.out.below hbd
  have hmx : cntS st < maxLen := by
    have h1 : cntS st ≤ st.length := List.countP_le_length
    have h2 := H1.out.len
    have h3 := (Hd.cnt_mul r4).2.2
    have h4 := ((Hd.right_iff _).1 r4).2.1
    simp only [maxLen]
    omega
  replace hmx := Lib.hid hmx; replace hgd := Lib.hid hgd; replace hvd := Lib.hid hvd; replace hbd := Lib.hid hbd
  go_wp2_with fail
  go_region_with (go_at_call 23; refine (clone_B _ _ _ c hvd.out (by omega)).mono ?_; rintro e w2 ⟨u, rfl, hb2, hown2⟩; obtain ⟨A2, n2, c2', rfl⟩ := hown2.row.shp; have hg2 := hgd.out.below hb2; obtain ⟨w3, hst, hm3, hk3⟩ := hg2.store Try.underlying59 i hi64 (.slice A2 n2 c2') hmx.out; change (Instr.mapUpdate _ _ (.int .i64 i) _).run _ _ = _ at hst; have d3' := (H1.out.below (hbd.out.trans hb2)).cells.2.2.2; replace hb2 := Lib.hid hb2; replace hown2 := Lib.hid hown2; replace hg2 := Lib.hid hg2; replace hm3 := Lib.hid hm3; replace hk3 := Lib.hid hk3)
  all_goals
    go_wp2
    go_ret
    have hb12 : Below w1.heap.size w1 w2 := hbd.out.trans hb2.out
    have hHP := H1.out.put r1 r2 hc5 hown2.out hg2.out (g := g) (fun k => by
      rcases hgr.out k with h1 | ⟨l, u, a, b, hr⟩
      · exact .inl h1
      · exact .inr ⟨l, u, a, b, hr.below hb1.out⟩) hb12 hm3.out hk3.out
    refine ⟨rfl, ?_, _, hHP, fun b hb => ?_⟩
    · exact (Keeps.of_below (Below.step hb1.out hb12) (fun b => b = bm)).trans hk3.out (fun _ _ h => h)
    · have := hb1.out.size
      rcases hb with h1 | h1
      · exact .inl h1
      · exact .inr (by omega)
theorem heap_put (w : World) (bh bm : Nat) (F G : Nat → Prop) (h : Hd) (st : St) (i : Int) (hi64 : I64h i) (v : Value) (c : List UInt8) (H : HeapAt w bh bm F h st) (hv : Row encB w G v c) :
    Calls Try.prog 11 #[.pointer (some ⟨bh, 0, none⟩), .int .i64 i, v] w (RetPut bh bm F h (putS h st i c) w) := by
  by_cases hneg : h.len i < 0
  · rw [show putS h st i c = (37, st) from by unfold putS; rw [if_pos hneg]]
    exact heap_put_range w bh bm F G h st i hi64 v c H hv hneg
  · by_cases hne : (c.length : Int) = h.len i
    · cases hd : elF st i with
      | none =>
        rw [show putS h st i c = (0, st.set i.toNat (some c)) from by unfold putS; rw [if_neg hneg, if_neg (by simpa using hne), hd]]
        exact heap_put_new w bh bm F G h st i hi64 v c H hv hneg hne hd
      | some d =>
        cases hdc : d == c with
        | true =>
          rw [show putS h st i c = (0, st.set i.toNat (some c)) from by unfold putS; rw [if_neg hneg, if_neg (by simpa using hne), hd]; simp only [hdc, if_true]]
          exact heap_put_same w bh bm F G h st i hi64 v c H hv hneg hne d hd hdc
        | false =>
          rw [show putS h st i c = (41, st) from by unfold putS; rw [if_neg hneg, if_neg (by simpa using hne), hd]; simp only [hdc, Bool.false_eq_true, if_false]]
          exact heap_put_turn w bh bm F G h st i hi64 v c H hv hneg hne d hd hdc
    · rw [show putS h st i c = (13, st) from by unfold putS; rw [if_neg hneg, if_pos hne]]
      exact heap_put_long w bh bm F G h st i hi64 v c H hv hneg hne
end Go.Proofs.Ytbgkohfifcfofaa
