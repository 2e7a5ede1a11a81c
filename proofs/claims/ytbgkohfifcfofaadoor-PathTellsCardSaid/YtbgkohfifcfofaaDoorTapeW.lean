/- The walks of package tape's readers, and of package fault's makers. -/
import Derived.Test.YtbgkohfifcfofaaDoorProg
import Derived.Test.YtbgkohfifcfofaaDoorBase
import Derived.Test.YtbgkohfifcfofaaDoorClB
import Derived.Test.YtbgkohfifcfofaaDoorTapeP
set_option linter.unusedVariables false
set_option linter.unusedSimpArgs false
set_option maxRecDepth 100000
open Go.RowKit
namespace Go.Proofs.YtbgkohfifcfofaaDoor
open Go.Proofs

/-- An error: faults, the newest first. -/
def ErrIs (w : World) (F : Nat → Prop) : Value → List (List UInt8 × Int) → Prop
  | ev, [] => ev = .nilIface
  | ev, (p, c) :: rest => ∃ bf bv, ev = .iface 97 (.pointer (some ⟨bf, 0, none⟩)) ∧ F bf ∧ w.heap[bf]? = some (.cells #[.string ⟨p.toArray⟩, .int .i64 c, bv] 99 (0, 0)) ∧ ErrIs w F bv rest
theorem ErrIs.keep {w w1 : World} {F G S : Nat → Prop} : ∀ {l : List (List UInt8 × Int)} {ev : Value}, ErrIs w F ev l → Keeps S w w1 → (∀ b, F b → ¬ S b) → (∀ b, F b → G b) → ErrIs w1 G ev l
  | [], ev, h, _, _, _ => h
  | (p, c) :: rest, ev, ⟨bf, bv, he, hf, hb, hr⟩, hk, hs, hg => ⟨bf, bv, he, hg bf hf, hk.get hb (hs bf hf), ErrIs.keep hr hk hs hg⟩
theorem ErrIs.below {w w1 : World} {F : Nat → Prop} {l : List (List UInt8 × Int)} {ev : Value} (h : ErrIs w F ev l) (hk : Below w.heap.size w w1) : ErrIs w1 F ev l := h.keep (Keeps.of_below hk NoB) (fun _ _ h => h) (fun _ h => h)
def tapeName : List UInt8 := [116, 97, 112, 101]
def erL : Option Nat → List (List UInt8 × Int)
  | none => []
  | some e => [(tapeName, (e : Int))]
structure TapeAt (F : Nat → Prop) (w : World) (bt : Nat) (t : TP) : Prop where
  out : ¬ F bt
  lt : ∀ b, F b → b < w.heap.size
  at_ : ∃ v ev, w.heap[bt]? = some (.cells #[v, ev] 57 (0, 0)) ∧ Row encB w F v t.l ∧ ErrIs w F ev (erL t.er)
  small : t.l.length ≤ 1000000000000
theorem TapeAt.btlt {F : Nat → Prop} {w : World} {bt : Nat} {t : TP} (h : TapeAt F w bt t) : bt < w.heap.size := by
  obtain ⟨v, ev, hb, _⟩ := h.at_
  exact lt_of_get hb
theorem TapeAt.keep {F S : Nat → Prop} {w w1 : World} {bt : Nat} {t : TP} (h : TapeAt F w bt t) (hk : Keeps S w w1) (hs : ∀ b, F b → ¬ S b) (hb : ¬ S bt) : TapeAt F w1 bt t := by
  obtain ⟨v, ev, h1, h2, h3⟩ := h.at_
  exact ⟨h.out, fun b hb => Nat.lt_of_lt_of_le (h.lt b hb) hk.size, ⟨v, ev, hk.get h1 hb, h2.keep hk hs, h3.keep hk hs (fun _ h => h)⟩, h.small⟩
theorem TapeAt.below {F : Nat → Prop} {w w1 : World} {bt : Nat} {t : TP} (h : TapeAt F w bt t) (hk : Below w.heap.size w w1) : TapeAt F w1 bt t := h.keep (Keeps.of_below hk NoB) (fun _ _ h => h) (fun h => h)
theorem TapeAt.made {F : Nat → Prop} {w : World} {bt : Nat} {l : List UInt8} {er : Option Nat} {v ev : Value} (h1 : ¬ F bt) (h2 : ∀ b, F b → b < w.heap.size) (h3 : w.heap[bt]? = some (.cells #[v, ev] 57 (0, 0)))
    (h4 : Row encB w F v l) (h5 : ErrIs w F ev (erL er)) (h6 : l.length ≤ 1000000000000) : TapeAt F w bt ⟨l, er⟩ := ⟨h1, h2, ⟨v, ev, h3, h4, h5⟩, h6⟩
/-- What a reader leaves. -/
def RetT (v : Value) (bt : Nat) (F : Nat → Prop) (t : TP) (w : World) : Ending → World → Prop := fun en w' => en = .returned v ∧ Keeps (fun b => b = bt) w w' ∧ ∃ F' : Nat → Prop, TapeAt F' w' bt t ∧ ∀ b, F' b → F b ∨ w.heap.size ≤ b

theorem wrap_ok (w : World) (p : ByteArray) (bv : Value) :
    Calls Tryd.prog 56 #[.string p, .int .i64 0, bv] w fun e w' => e = .returned bv ∧ w = w' := by
  go_enter Tryd.func56, Tryd.ntmps56
  go_wp2
  go_ret
  simp
theorem ErrIs.shape {w : World} {F : Nat → Prop} : ∀ {l : List (List UInt8 × Int)} {ev : Value}, ErrIs w F ev l → (ev = .nilIface ∧ l = []) ∨ (∃ a, ev = .iface 97 (.pointer (some a))) ∧ l ≠ []
  | [], ev, h => .inl ⟨h, rfl⟩
  | (p, c) :: rest, ev, ⟨bf, bv, he, _⟩ => .inr ⟨⟨_, he⟩, by simp⟩
def WrapV (w : World) (p : ByteArray) (c : Int) (bv : Value) : Ending → World → Prop := fun e w' => e = .returned (.iface 97 (.pointer (some ⟨w.heap.size, 0, none⟩))) ∧ w.alloc (.cells #[.string p, .int .i64 c, bv] 99) = w'
theorem wrap_err (w : World) (F : Nat → Prop) (p : ByteArray) (c : Int) (hc : (c == 0) = false) (bv : Value) (l : List (List UInt8 × Int)) (h : ErrIs w F bv l) :
    Calls Tryd.prog 56 #[.string p, .int .i64 c, bv] w (WrapV w p c bv) := by
  rcases h.shape with ⟨rfl, _⟩ | ⟨⟨a, rfl⟩, _⟩
  all_goals
    clear h
    go_enter Tryd.func56, Tryd.ntmps56
    go_wp2
    go_ret
    exact ⟨rfl, rfl⟩
theorem new_err (w : World) (p : ByteArray) (c : Int) (hc : (c == 0) = false) :
    Calls Tryd.prog 47 #[.string p, .int .i64 c] w (WrapV w p c .nilIface) := by
  go_enter Tryd.func47, Tryd.ntmps47
  go_wp2_with fail
  refine (wrap_err w NoB p c hc _ [] rfl).mono ?_
  rintro e w1 ⟨rfl, rfl⟩
  go_wp2
  go_ret
  exact ⟨rfl, rfl⟩
/-- A new tape. -/
def RetTape (l : List UInt8) (w : World) : Ending → World → Prop := fun en w' => ∃ bt, en = .returned (.pointer (some ⟨bt, 0, none⟩)) ∧ Below w.heap.size w w' ∧ w.heap.size ≤ bt ∧ TapeAt (fun b => w.heap.size ≤ b ∧ b < bt) w' bt ⟨l, none⟩
theorem tape_new (w : World) (F : Nat → Prop) (v : Value) (l : List UInt8) (hr : Row encB w F v l) (hl : l.length ≤ 1000000000000) :
    Calls Tryd.prog 7 #[v] w (RetTape l w) := by
  go_enter Tryd.func7, Tryd.ntmps7
  go_wp2_with fail
  refine (clone_B _ _ _ _ hr (by omega)).mono ?_
  rintro e w1 ⟨u, rfl, hb, hown⟩
  have hrow := (hown.row.inside).below ((Below.refl _ w1).alloc (Nat.le_refl _) (.cells #[u, .nilIface] 57))
  obtain ⟨A, c, rfl, _, _⟩ := hown.row.shape
  go_wp2
  go_ret
  refine ⟨_, rfl, hb.alloc hb.size _, hb.size, ⟨by omega, fun b hb => by have := hb.2; simp; omega, ⟨_, _, heap_alloc_new w1 _, hrow, rfl⟩, hl⟩⟩

theorem tape_fail_old (w : World) (F : Nat → Prop) (bt : Nat) (t : TP) (e : Int) (h : TapeAt F w bt t) (he : t.er.isSome) :
    Calls Tryd.prog 46 #[.pointer (some ⟨bt, 0, none⟩), .int .i64 e] w (RetT (.int .i64 0) bt F t w) := by
  obtain ⟨v, ev, hb, hrow, hev⟩ := h.at_
  obtain ⟨k, hk⟩ := Option.isSome_iff_exists.1 he
  rw [hk] at hev
  obtain ⟨bf, bv, rfl, hf, hbf, _⟩ := hev
  have hc1 : w.cell? ⟨bt, 1, none⟩ = some (.iface 97 (.pointer (some ⟨bf, 0, none⟩))) := cell_of_get hb rfl
  clear hbf hb hk he
  go_enter Tryd.func46, Tryd.ntmps46
  go_wp2
  go_ret
  exact ⟨rfl, Keeps.refl _ _, F, h, fun b hb => .inl hb⟩
theorem tape_fail_new (w : World) (F : Nat → Prop) (bt : Nat) (t : TP) (e : Nat) (h : TapeAt F w bt t) (he : t.er = none) (h0 : (((e : Int)) == 0) = false) :
    Calls Tryd.prog 46 #[.pointer (some ⟨bt, 0, none⟩), .int .i64 (e : Int)] w (RetT (.int .i64 0) bt F ⟨t.l, some e⟩ w) := by
  obtain ⟨v, ev, hb, hrow, hev⟩ := h.at_
  have hlt := h.btlt
  rw [he] at hev
  obtain rfl : ev = .nilIface := hev
  have hc1 : w.cell? ⟨bt, 1, none⟩ = some .nilIface := cell_of_get hb rfl
  have hfr : w.frozen? ⟨bt, 1, none⟩ = false := free_of_get hb
  replace hb := Lib.hid hb
  replace he := Lib.hid he
  go_enter Tryd.func46, Tryd.ntmps46
  go_wp2_with fail
  refine (new_err _ _ _ h0).mono ?_
  rintro en w1 ⟨rfl, rfl⟩
  go_wp2
  go_ret
  have hk : Keeps (fun b => b = bt) w ((w.setCell ⟨bt, 1, none⟩ (.iface 97 (.pointer (some ⟨w.heap.size, 0, none⟩)))).alloc (.cells #[.string ⟨#[116, 97, 112, 101]⟩, .int .i64 (e : Int), .nilIface] 99)) :=
    ((Keeps.refl (fun b => b = bt) w).setCell (a := ⟨bt, 1, none⟩) (fun _ => rfl) _).alloc _
  have hz : (w.setCell ⟨bt, 1, none⟩ (.iface 97 (.pointer (some ⟨w.heap.size, 0, none⟩)))).heap.size = w.heap.size := by simp [World.setCell]
  have hev' : ErrIs ((w.setCell ⟨bt, 1, none⟩ (.iface 97 (.pointer (some ⟨w.heap.size, 0, none⟩)))).alloc (.cells #[.string ⟨#[116, 97, 112, 101]⟩, .int .i64 (e : Int), .nilIface] 99)) (fun b => F b ∨ b = w.heap.size) (.iface 97 (.pointer (some ⟨w.heap.size, 0, none⟩))) (erL (some e)) :=
    ⟨w.heap.size, .nilIface, rfl, .inr rfl, by have := heap_alloc_new (w.setCell ⟨bt, 1, none⟩ (.iface 97 (.pointer (some ⟨w.heap.size, 0, none⟩)))) (.cells #[.string ⟨#[116, 97, 112, 101]⟩, .int .i64 (e : Int), .nilIface] 99); rw [hz] at this; exact this, rfl⟩
  refine ⟨rfl, hk, fun b => F b ∨ b = w.heap.size, TapeAt.made ?_ ?_ ?_ ((hrow.keep hk (fun b hb => fun he => h.out (he ▸ hb))).mono (fun b hb => .inl hb)) hev' h.small, ?_⟩
  · rintro (h' | h')
    · exact h.out h'
    · omega
  · rintro b (hb' | rfl)
    · have := h.lt b hb'; have := hk.size; omega
    · simp [World.setCell]
  · rw [heap_alloc_old _ _ (by rw [hz]; exact hlt)]
    exact get_setCell hb.out _
  · rintro b (hb' | rfl)
    · exact .inl hb'
    · exact .inr (Nat.le_refl _)

/-- What the reading of a number ahead comes to. -/
def RetNum (r : Nat × Nat × Nat) (w : World) : Ending → World → Prop := fun en w' => en = .returned (.tuple #[.int .i64 (r.1 : Int), .int .i64 (r.2.1 : Int), .int .i64 (r.2.2 : Int)]) ∧ w = w'
theorem wrap64_nat (n : Nat) (h : n < 9223372036854775808) : wrap64 (n : Int) = n := by unfold wrap64; omega
set_option maxRecDepth 100000 in
set_option maxHeartbeats 1000000 in
theorem tape_number_ahead (w : World) (F : Nat → Prop) (bt : Nat) (t : TP) (h : TapeAt F w bt t) :
    Calls Tryd.prog 45 #[.pointer (some ⟨bt, 0, none⟩)] w (RetNum (numGo 0 0 1 t.l) w) := by
  obtain ⟨v, ev, hb, hrow, hev⟩ := h.at_
  have hsm := h.small
  obtain ⟨A, c, rfl, hc1, hc2⟩ := hrow.shape
  have hc0 : w.cell? ⟨bt, 0, none⟩ = some (.slice A t.l.length c) := cell_of_get hb rfl
  clear hb hev h
  generalize hl : t.l = l at *
  replace hrow := Lib.hid hrow
  go_enter Tryd.func45, Tryd.ntmps45
  go_wp2
  go_loop [5, 6, 7, 8, 14] (fun n wt _ _ i => ∃ k m : Nat, k ≤ l.length ∧ k ≤ 9 ∧ m < 128 ^ k ∧ i = .int .i64 k ∧ n = .int .i64 m ∧ wt = .int .i64 (wrap64 ((128 ^ k : Nat) : Int)) ∧ Hid (numGo 0 0 1 l = numGo k m (128 ^ k) (l.drop k))) (fun _ _ _ _ i => l.length - (intOf i).toNat)
  case atStart => exact ⟨0, 0, Nat.zero_le _, by omega, by decide, rfl, rfl, by rw [wrap64_nat _ (by decide)]; rfl, Lib.hid rfl⟩
  case round =>
    obtain ⟨k, m, hk, hk9, hm, rfl, rfl, rfl, hgo⟩ := hrel
    by_cases hlt : k < l.length
    · obtain ⟨x, hxk⟩ := get_some_of_lt hlt
      obtain ⟨b, o, rfl, _, hck⟩ := hrow.out.at hxk
      simp only [encB] at hck
      have hx1 := x.toNat_lt
      have hd : l.drop k = x :: l.drop (k + 1) := by
        rw [List.drop_eq_getElem_cons hlt]; congr 1; rw [List.getElem?_eq_getElem hlt] at hxk; exact Option.some.inj hxk
      replace hxk := Lib.hid hxk
      replace hd := Lib.hid hd
      by_cases h9 : k = 9
      · have hres : numGo 0 0 1 l = (0, 0, 10) := by rw [hgo.out, hd.out, h9]; simp [numGo]
        subst h9
        replace hres := Lib.hid hres
        go_wp2
        go_ret3
        exact ⟨by rw [hres.out]; rfl, rfl⟩
      · have hp := pow128 k (by omega)
        generalize hW : 128 ^ k = W at *
        have hwr : wrap64 (W : Int) = W := wrap64_nat W (by omega)
        rw [hwr]
        replace hW := Lib.hid hW
        replace hwr := Lib.hid hwr
        have h9' : ((k : Int) == 9) = false := by simp only [beq_eq_false_iff_ne, ne_eq]; omega
        by_cases hx : 128 ≤ x.toNat
        · have hres : numGo 0 0 1 l = numGo (k + 1) (m + (x.toNat - 128) * W) (W * 128) (l.drop (k + 1)) := by
            rw [hgo.out, hd.out]; simp only [numGo]; rw [if_neg h9, if_pos hx]
          have hle : (x.toNat - 128) * W ≤ 127 * W := Nat.mul_le_mul_right _ (by omega)
          have e1 : wrap64 (((x.toNat : Int) - 128) * (W : Int)) = (((x.toNat - 128) * W : Nat) : Int) := by
            rw [show ((x.toNat : Int) - 128) = ((x.toNat - 128 : Nat) : Int) from by omega, ← Int.natCast_mul]
            exact wrap64_nat _ (by omega)
          have e2 : wrap64 ((m : Int) + (((x.toNat - 128) * W : Nat) : Int)) = ((m + (x.toNat - 128) * W : Nat) : Int) := by
            rw [← Int.natCast_add]; exact wrap64_nat _ (by omega)
          have e3 : wrap64 ((W : Int) * 128) = wrap64 ((W * 128 : Nat) : Int) := by rw [Int.natCast_mul]; rfl
          replace hres := Lib.hid hres
          replace e1 := Lib.hid e1
          replace e2 := Lib.hid e2
          replace e3 := Lib.hid e3
          replace hp := Lib.hid hp
          replace hm := Lib.hid hm
          replace hle := Lib.hid hle
          go_wp2
          refine ⟨⟨k + 1, m + (x.toNat - 128) * W, by omega, by omega, ?_, by go_num, ?_, ?_, ?_⟩, by simp [intOf]; omega⟩
          · rw [Nat.pow_succ, hW.out]; have := hm.out; have := hle.out; omega
          · rw [e1.out, e2.out]
          · rw [e3.out, Nat.pow_succ, hW.out]
          · rw [Nat.pow_succ, hW.out]; exact hres
        · have hle : x.toNat * W ≤ 127 * W := Nat.mul_le_mul_right _ (by omega)
          have e1 : wrap64 ((x.toNat : Int) * (W : Int)) = ((x.toNat * W : Nat) : Int) := by
            rw [← Int.natCast_mul]; exact wrap64_nat _ (by omega)
          have e2 : wrap64 ((m : Int) + ((x.toNat * W : Nat) : Int)) = ((m + x.toNat * W : Nat) : Int) := by
            rw [← Int.natCast_add]; exact wrap64_nat _ (by omega)
          replace e1 := Lib.hid e1
          replace e2 := Lib.hid e2
          replace hp := Lib.hid hp
          replace hm := Lib.hid hm
          replace hle := Lib.hid hle
          by_cases h0 : x.toNat = 0
          · have hx0 : ((x.toNat : Int) == 0) = true := by simp only [beq_iff_eq]; omega
            by_cases hk0 : 0 < k
            · have hres : numGo 0 0 1 l = (0, 0, 10) := by
                rw [hgo.out, hd.out]; simp only [numGo]; rw [if_neg h9, if_neg hx, if_pos ⟨h0, hk0⟩]
              replace hres := Lib.hid hres
              replace h0 := Lib.hid h0
              go_wp2
              go_ret3
              exact ⟨by rw [hres.out]; rfl, rfl⟩
            · have hres : numGo 0 0 1 l = (m + x.toNat * W, k + 1, 0) := by
                rw [hgo.out, hd.out]; simp only [numGo]; rw [if_neg h9, if_neg hx, if_neg (by omega)]
              replace hres := Lib.hid hres
              replace h0 := Lib.hid h0
              go_wp2
              go_ret3
              exact ⟨by rw [hres.out, e1.out, e2.out]; rfl, rfl⟩
          · have hx0 : ((x.toNat : Int) == 0) = false := by simp only [beq_eq_false_iff_ne, ne_eq]; omega
            have hres : numGo 0 0 1 l = (m + x.toNat * W, k + 1, 0) := by
              rw [hgo.out, hd.out]; simp only [numGo]; rw [if_neg h9, if_neg hx, if_neg (by omega)]
            replace hres := Lib.hid hres
            replace h0 := Lib.hid h0
            go_wp2
            go_ret3
            exact ⟨by rw [hres.out, e1.out, e2.out]; rfl, rfl⟩
    · have hres : numGo 0 0 1 l = (0, 0, 11) := by
        rw [hgo.out, List.drop_eq_nil_of_le (by omega)]; rfl
      replace hres := Lib.hid hres
      go_wp2
      go_ret3
      exact ⟨by rw [hres.out]; rfl, rfl⟩
end Go.Proofs.YtbgkohfifcfofaaDoor
