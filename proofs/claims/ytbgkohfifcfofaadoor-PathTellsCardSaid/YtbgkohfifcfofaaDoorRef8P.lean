/- The walk of regencyref08.Parse. -/
import Derived.Test.YtbgkohfifcfofaaDoorParseP
import Derived.Test.YtbgkohfifcfofaaDoorRef8G
set_option linter.unusedVariables false
set_option linter.unusedSimpArgs false
set_option maxRecDepth 100000
open Go.RowKit
namespace Go.Proofs.YtbgkohfifcfofaaDoor
open Go.Proofs
/-- What a Parse leaves. -/
def RetParse (r : Option (List Int)) (w : World) : Ending → World → Prop := RetOwn2 encI 3 (r.getD []) r.isSome w
/-- The loop's state, k bytes read. -/
structure RP (s : List UInt8) (k : Nat) (ps : List Int) (n d : Nat) : Prop where
  here : k ≤ s.length → rp s [] 0 0 = rp (s.drop k) ps n d
  over : ¬ k ≤ s.length → rp s [] 0 0 = some ps
  d7 : d ≤ 7
  n10 : n < 10 ^ d
  small : ∀ x ∈ ps, 0 ≤ x ∧ x < 10000000
  len : ps.length ≤ k
theorem RP.start (s : List UInt8) : RP s 0 [] 0 0 := ⟨fun _ => by simp, fun h => absurd (Nat.zero_le _) h, by omega, by simp, by simp, by simp⟩
theorem pow_le7 {d : Nat} (h : d ≤ 7) : 10 ^ d ≤ 10000000 := by
  have := Nat.pow_le_pow_right (n := 10) (by omega) h
  simpa using this
theorem RP.lt {s : List UInt8} {k n d : Nat} {ps : List Int} (h : RP s k ps n d) : n < 10000000 := by
  have h1 := h.n10
  have h2 := pow_le7 h.d7
  omega
theorem RP.last {s : List UInt8} {ps : List Int} {n d : Nat} (h : RP s s.length ps n d) : RP s (s.length + 1) (ps ++ [(n : Int)]) 0 0 := by
  have hn := h.lt
  refine ⟨fun h => by omega, fun _ => ?_, by omega, by simp, ?_, by have := h.len; simp; omega⟩
  · rw [h.here (Nat.le_refl _), List.drop_length]; rfl
  · intro x hx
    rcases List.mem_append.1 hx with hx | hx
    · exact h.small x hx
    · simp at hx; subst hx; omega
theorem drop_cons {s : List UInt8} {k : Nat} {c : UInt8} (hc : s[k]? = some c) : s.drop k = c :: s.drop (k + 1) := by
  have hk : k < s.length := (List.getElem?_eq_some_iff.1 hc).1
  rw [List.drop_eq_getElem_cons hk]
  rw [List.getElem?_eq_getElem hk] at hc
  cases hc
  rfl
theorem RP.dot {s : List UInt8} {k : Nat} {ps : List Int} {n d : Nat} (h : RP s k ps n d) (hc : s[k]? = some 46) : RP s (k + 1) (ps ++ [(n : Int)]) 0 0 := by
  have hk : k < s.length := (List.getElem?_eq_some_iff.1 hc).1
  have hn := h.lt
  refine ⟨fun _ => ?_, fun h => by omega, by omega, by simp, ?_, by have := h.len; simp; omega⟩
  · rw [h.here (by omega), drop_cons hc, rp, if_pos rfl]
  · intro x hx
    rcases List.mem_append.1 hx with hx | hx
    · exact h.small x hx
    · simp at hx; subst hx; omega
theorem RP.bad {s : List UInt8} {k : Nat} {ps : List Int} {n d : Nat} {c : UInt8} (h : RP s k ps n d) (hc : s[k]? = some c) (h46 : c ≠ 46) (hb : c.toNat < 48 ∨ 57 < c.toNat ∨ 7 < d + 1) : rp s [] 0 0 = none := by
  have hk : k < s.length := (List.getElem?_eq_some_iff.1 hc).1
  rw [h.here (by omega), drop_cons hc, rp, if_neg h46, if_pos hb]
theorem RP.digit {s : List UInt8} {k : Nat} {ps : List Int} {n d : Nat} {c : UInt8} (h : RP s k ps n d) (hc : s[k]? = some c) (h46 : c ≠ 46) (h1 : 48 ≤ c.toNat) (h2 : c.toNat ≤ 57) (h7 : d + 1 ≤ 7) : RP s (k + 1) ps (10 * n + (c.toNat - 48)) (d + 1) := by
  have hk : k < s.length := (List.getElem?_eq_some_iff.1 hc).1
  refine ⟨fun _ => ?_, fun h => by omega, h7, ?_, h.small, by have := h.len; omega⟩
  · rw [h.here (by omega), drop_cons hc, rp, if_neg h46, if_neg (by omega)]
  · have := h.n10
    rw [Nat.pow_succ]
    omega
set_option maxHeartbeats 2000000 in
theorem ref8_parse (w : World) (s : List UInt8) (hs : s.length ≤ 900) :
    Calls Tryd.prog 13 #[.string ⟨s.toArray⟩] w (RetParse (refParse s) w) := by
  generalize hr : refParse s = r
  by_cases h0 : s = []
  · subst h0
    have hr : r = some [] := by rw [← hr]; rfl
    subst hr
    go_enter Tryd.func13, Tryd.ntmps13
    go_wp2
    go_ret2
    exact ⟨_, rfl, Below.refl _ _, Own.nil _ _ _ _⟩
  · have hemp : s.isEmpty = false := by simp [h0]
    have hpos : 0 < s.length := by
      rcases Nat.eq_zero_or_pos s.length with h | h
      · exact absurd (List.eq_nil_of_length_eq_zero h) h0
      · exact h
    have hr1 : rp s [] 0 0 = none → r = none := by intro h; rw [← hr]; unfold refParse; rw [if_neg h0, h]
    have hr2 : ∀ p, rp s [] 0 0 = some p → r = if okP s p then some p else none := by intro p h; rw [← hr]; unfold refParse; rw [if_neg h0, h]
    have hat : ∀ (k : Nat) (x : UInt8), s[k]? = some x → ∀ W : World, (Instr.index 9 (.string ⟨s.toArray⟩) (.int .i64 (k : Int))).run Tryd.prog W = .ok (.int .u8 (x.toNat : Int)) W := fun k x h W => str_at Tryd.underlying9 rfl h .i64 W
    have hsz := bytes_size s
    replace hr := Lib.hid hr; replace h0 := Lib.hid h0; replace hr1 := Lib.hid hr1; replace hr2 := Lib.hid hr2; replace hat := Lib.hid hat
    go_enter Tryd.func13, Tryd.ntmps13
    go_wp2
    go_loopw [4, 5, 6, 7] (fun v n d i wr => ∃ (k : Nat) (ps : List Int) (m e : Nat), k ≤ s.length + 1 ∧ i = .int .i64 (k : Int) ∧ n = .int .i64 (m : Int) ∧ d = .int .i64 (e : Int) ∧ Below w.heap.size w wr ∧ Own encI 3 wr w.heap.size v ps ∧ RP s k ps m e) (fun _ _ _ i _ => s.length + 1 - (intOf i).toNat)
    case atStart => exact ⟨0, [], 0, 0, Nat.zero_le _, rfl, rfl, rfl, Below.refl _ _, Own.nil _ _ _ _, RP.start s⟩
    case round =>
      obtain ⟨k, ps, m, e, hk, rfl, rfl, rfl, hb, hown, hrp⟩ := hrel
      by_cases hend : s.length < k
      · have hov := hrp.over (by omega)
        have hq := Lib.hid (hr2.out ps hov)
        have hi : ∀ x ∈ ps, I64 x := fun x hx => by have := hrp.small x hx; constructor <;> omega
        have hpl : ps.length ≤ 1000 := by have := hrp.len; omega
        replace hov := Lib.hid hov; replace hrp := Lib.hid hrp; replace hi := Lib.hid hi
        obtain ⟨A, n0, c0, rfl⟩ := hown.row.shp
        have hrow := hown.row
        replace hown := Lib.hid hown
        generalize hpr : pathRight ps = b
        cases b with
        | false =>
          have hr : r = none := by rw [hq.out]; simp [okP, hpr]
          subst hr
          replace hpr := Lib.hid hpr
          go_wp2_with fail
          refine (ref8_right _ _ _ _ hrow).mono ?_
          rintro e w1 ⟨rfl, rfl⟩
          rw [hpr.out]
          go_wp2
          go_ret2
          exact ⟨_, rfl, hb, Own.nil _ _ _ _⟩
        | true =>
          have hq2 := Lib.hid (show r = if ptextB ps = s then some ps else none by rw [hq.out]; simp [okP, hpr])
          replace hpr := Lib.hid hpr
          by_cases heq : ptextB ps = s
          · have hr : r = some ps := by rw [hq2.out, if_pos heq]
            subst hr
            replace heq := Lib.hid heq
            go_wp2_with fail
            refine (ref8_right _ _ _ _ hrow).mono ?_
            rintro e w1 ⟨rfl, rfl⟩
            rw [hpr.out]
            go_wp2_with fail
            refine (ref8_text _ _ _ _ hrow hpl hi.out).mono ?_
            rintro e w1 ⟨rfl, rfl⟩
            rw [heq.out]
            go_wp2
            go_ret2
            exact ⟨_, rfl, hb, hown.out⟩
          · have hr : r = none := by rw [hq2.out, if_neg heq]
            subst hr
            generalize htx : ptextB ps = tx at *
            have hbeq : (tx == s) = false := by simpa using heq
            replace htx := Lib.hid htx; replace heq := Lib.hid heq
            go_wp2_with fail
            refine (ref8_right _ _ _ _ hrow).mono ?_
            rintro e w1 ⟨rfl, rfl⟩
            rw [hpr.out]
            go_wp2_with fail
            refine (ref8_text _ _ _ _ hrow hpl hi.out).mono ?_
            rintro e w1 ⟨rfl, rfl⟩
            rw [htx.out]
            go_wp2
            go_ret2
            exact ⟨_, rfl, hb, Own.nil _ _ _ _⟩
      · have hn := hrp.lt
        have hd7 := hrp.d7
        have hpk := hrp.len
        obtain ⟨A, n0, c0, rfl⟩ := hown.row.shp
        have hv := hown.below ((Below.refl _ wr).alloc (Nat.le_refl _) (.cells #[.int .i64 (m : Int)] 3))
        have hu : Src (wr.alloc (.cells #[.int .i64 (m : Int)] 3)) 1 (.slice (some ⟨wr.heap.size, 0, none⟩) 1 1) [(m : Int)].length ([(m : Int)].map encI) := Src.lit wr 1 #[.int .i64 (m : Int)] 3 1 1 rfl
        have hby : (ps.length + [(m : Int)].length) * 8 ≤ 140737488355328 := by simp; omega
        have hsz2 : w.heap.size ≤ (wr.alloc (.cells #[.int .i64 (m : Int)] 3)).heap.size := by have := hb.size; simp; omega
        have hkeep : ∀ v' w3, App encI 3 w.heap.size (wr.alloc (.cells #[.int .i64 (m : Int)] 3)) (.slice A n0 c0) (ps ++ [(m : Int)]) v' w3 → Below w.heap.size w w3 ∧ Own encI 3 w3 w.heap.size v' (ps ++ [(m : Int)]) := by
          intro v' w3 ha
          refine ⟨hb.trans ?_, ha.own⟩
          exact (((Keeps.refl _ wr).alloc _).trans ha.keep (fun b _ h => h)).belowB hb.size (fun b hlt he => by have := (hown.lt b he).1; omega)
        replace hv := Lib.hid hv; replace hu := Lib.hid hu; replace hby := Lib.hid hby; replace hsz2 := Lib.hid hsz2; replace hb := Lib.hid hb; replace hkeep := Lib.hid hkeep
        by_cases hlast : k = s.length
        · subst hlast
          have hrn := hrp.last
          replace hrp := Lib.hid hrp; replace hrn := Lib.hid hrn; replace hown := Lib.hid hown
          go_wp2_with (at_builtin; go_must (refine wp_app_own (fun _ => rfl) elI elI.t (by simp) hv.out hu.out hby.out hsz2.out rfl _ _ rfl rfl rfl ?_); rintro v' w3 ha; replace ha := Lib.hid (hkeep.out _ _ ha))
          go_roundw
          case rel => exact ⟨s.length + 1, _, 0, 0, by omega, by go_num, rfl, rfl, ha.out.1, ha.out.2, hrn.out⟩
          case measure => simp [intOf]
        · have hlt : k < s.length := by omega
          obtain ⟨c, hck⟩ := get_some_of_lt hlt
          have hcc := hat.out k c hck
          have hc256 : c.toNat < 256 := c.toNat_lt
          by_cases h46 : c = 46
          · subst h46
            have hrn := hrp.dot hck
            replace hrp := Lib.hid hrp; replace hrn := Lib.hid hrn; replace hown := Lib.hid hown; replace hck := Lib.hid hck
            go_wp2_with (at_builtin; go_must (refine wp_app_own (fun _ => rfl) elI elI.t (by simp) hv.out hu.out hby.out hsz2.out rfl _ _ rfl rfl rfl ?_); rintro v' w3 ha; replace ha := Lib.hid (hkeep.out _ _ ha))
            go_roundw
            case rel => exact ⟨k + 1, _, 0, 0, by omega, by go_num, rfl, rfl, ha.out.1, ha.out.2, hrn.out⟩
            case measure => simp [intOf]; omega
          · have h46n : ((c.toNat : Int) == 46) = false := by
              simp only [beq_eq_false_iff_ne, ne_eq]
              intro h
              exact h46 (UInt8.toNat.inj (by simp; omega))
            by_cases hbad : c.toNat < 48 ∨ 57 < c.toNat ∨ 7 < e + 1
            · have hr := hr1.out (hrp.bad hck h46 hbad)
              subst hr
              replace hrp := Lib.hid hrp; replace hown := Lib.hid hown; replace hck := Lib.hid hck; replace h46 := Lib.hid h46
              rcases hbad with hbad | hbad
              · go_wp2
                go_ret2
                exact ⟨_, rfl, hb.out, Own.nil _ _ _ _⟩
              · by_cases hb1 : c.toNat < 48
                · go_wp2
                  go_ret2
                  exact ⟨_, rfl, hb.out, Own.nil _ _ _ _⟩
                · by_cases hb2 : 57 < c.toNat
                  · go_wp2
                    go_ret2
                    exact ⟨_, rfl, hb.out, Own.nil _ _ _ _⟩
                  · go_wp2
                    go_ret2
                    exact ⟨_, rfl, hb.out, Own.nil _ _ _ _⟩
            · have hb1 : 48 ≤ c.toNat := by omega
              have hb2 : c.toNat ≤ 57 := by omega
              have hb3 : e + 1 ≤ 7 := by omega
              have hrn := hrp.digit hck h46 hb1 hb2 hb3
              replace hrp := Lib.hid hrp; replace hck := Lib.hid hck; replace h46 := Lib.hid h46; replace hrn := Lib.hid hrn
              replace hown := Lib.hid hown
              go_wp2
              go_roundw
              case rel => exact ⟨k + 1, ps, _, _, by omega, by go_num, by go_num, by go_num, hb.out, hown.out, hrn.out⟩
              case measure => simp [intOf]; omega
end Go.Proofs.YtbgkohfifcfofaaDoor
