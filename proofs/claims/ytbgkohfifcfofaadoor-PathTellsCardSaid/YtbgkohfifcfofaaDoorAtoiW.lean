/- strconv.Atoi, in one word; path.Parse's plain side. -/
import Derived.Test.YtbgkohfifcfofaaDoorShelf
import Derived.Test.YtbgkohfifcfofaaDoorParseP
import Derived.Test.YtbgkohfifcfofaaDoorSplitP
import Derived.Lib.AtoiAll
set_option linter.unusedVariables false
set_option linter.unusedSimpArgs false
open Go.RowKit
namespace Go.Proofs.YtbgkohfifcfofaaDoor
open Go.Proofs
def atoiR (l : List UInt8) : Option Int := match Lib.atoiAll l with
  | .ok v => some v
  | _ => none
theorem atoiR_I64 {l : List UInt8} {v : Int} (h : atoiR l = some v) : I64 v := by
  unfold atoiR at h
  cases hl : Lib.atoiAll l
  case range => rw [hl] at h; cases h
  case ok u =>
    rw [hl] at h
    cases h
    cases l with
    | nil => simp [Lib.atoiAll] at hl
    | cons c r =>
      simp only [Lib.atoiAll] at hl
      split at hl
      · cases hl
      · cases hl
      · split at hl
        · cases hl
        · split at hl
          · cases hl
          · cases hl
            unfold I64
            split <;> omega
  · rw [hl] at h; cases h
/-- strconv's two errors are there. -/
def VarW (w : World) : Prop := (∃ tp p, w.var? Tryd.prog "strconv.ErrSyntax" = some #[.iface tp p]) ∧ (∃ tp p, w.var? Tryd.prog "strconv.ErrRange" = some #[.iface tp p])
theorem VarW.below {w w1 : World} {B : Nat} (h : VarW w) (hb : Below B w w1) (hB : w.heap.size ≤ B) : VarW w1 := by
  obtain ⟨⟨t1, p1, h1⟩, ⟨t2, p2, h2⟩⟩ := h
  exact ⟨⟨t1, p1, Joins.var_stays (g := 0) (by kernel_rfl) h1 hb hB⟩, ⟨t2, p2, Joins.var_stays (g := 1) (by kernel_rfl) h2 hb hB⟩⟩
/-- What Atoi leaves. -/
def RetAtoi (r : Option Int) (w : World) : Ending → World → Prop := fun e w' => ∃ n ev, e = .returned (.tuple #[.int .i64 n, ev]) ∧ Below w.heap.size w w' ∧ (match r with
  | some v => n = v ∧ ev = .nilIface
  | none => ∃ tp p, ev = .iface tp p)
theorem atoi_call (w : World) (l : List UInt8) (hl : l.length ≤ 1000000) (hv : VarW w) :
    Calls Tryd.prog 30 #[.string ⟨l.toArray⟩] w (RetAtoi (atoiR l) w) := by
  have hsz := bytes_size l
  obtain ⟨⟨t1, p1, h1⟩, ⟨t2, p2, h2⟩⟩ := hv
  unfold atoiR
  cases hr : Lib.atoiAll l
  case ok v =>
    refine (Tryd.strconv_Atoi_ok ⟨l.toArray⟩ (by omega) v hr w).mono ?_
    rintro e w1 ⟨rfl, h⟩
    refine ⟨_, _, rfl, ?_, rfl, rfl⟩
    rcases h with rfl | ⟨t, rfl⟩
    · exact Below.refl _ _
    · exact Joins.below_bytesWorld _ _ _ _ (Nat.le_refl _)
  case range =>
    refine (Tryd.strconv_Atoi_range_var ⟨l.toArray⟩ (by omega) hr t2 p2 w h2).mono ?_
    rintro e w1 ⟨N, rfl, _, _, hb⟩
    exact ⟨_, _, rfl, hb, _, _, rfl⟩
  · refine (Tryd.strconv_Atoi_syntax_var ⟨l.toArray⟩ (by omega) (by intro v h; rw [show (⟨l.toArray⟩ : ByteArray).data.toList = l from rfl, hr] at h; cases h) (by intro h; rw [show (⟨l.toArray⟩ : ByteArray).data.toList = l from rfl, hr] at h; cases h) t1 p1 w h1).mono ?_
    rintro e w1 ⟨N, rfl, _, _, hb⟩
    exact ⟨_, _, rfl, hb, _, _, rfl⟩
/-- path.Parse's loop. -/
def stepP (o : Option (List Int)) (x : List UInt8) : Option (List Int) := match o with
  | none => none
  | some out => match atoiR x with
    | none => none
    | some n => if out.length = 6 then none else some (out ++ [n])
def runP (l : List (List UInt8)) : Option (List Int) := l.foldl stepP (some [])
theorem runP_snoc (l : List (List UInt8)) (x : List UInt8) : runP (l ++ [x]) = stepP (runP l) x := by simp [runP]
theorem foldP_none (l : List (List UInt8)) : l.foldl stepP none = none := by
  induction l with
  | nil => rfl
  | cons x l ih => exact ih
theorem runP_prefix {l m : List (List UInt8)} (h : l <+: m) (hn : runP l = none) : runP m = none := by
  obtain ⟨t, rfl⟩ := h
  unfold runP at *
  rw [List.foldl_append, hn, foldP_none]
theorem runP_I64 : ∀ (l : List (List UInt8)) (o : List Int), (∀ x ∈ o, I64 x) → o.length ≤ 6 → ∀ p, l.foldl stepP (some o) = some p → (∀ x ∈ p, I64 x) ∧ p.length ≤ 6
  | [], o, h, hl, p, hp => by simp at hp; subst hp; exact ⟨h, hl⟩
  | x :: l, o, h, hl, p, hp => by
    simp only [List.foldl_cons] at hp
    cases hx : atoiR x with
    | none => simp only [stepP, hx, foldP_none] at hp; cases hp
    | some n =>
      by_cases h6 : o.length = 6
      · simp only [stepP, hx, h6, if_true, foldP_none] at hp; cases hp
      · simp only [stepP, hx, h6, if_false] at hp
        refine runP_I64 l _ ?_ (by simp; omega) p hp
        intro y hy
        rcases List.mem_append.1 hy with hy | hy
        · exact h y hy
        · simp at hy; subst hy; exact atoiR_I64 hx
theorem runP_ok {l : List (List UInt8)} {p : List Int} (h : runP l = some p) : (∀ x ∈ p, I64 x) ∧ p.length ≤ 6 := runP_I64 l [] (by simp) (by simp) p h
/-- path.Parse -/
def pathParse (s : List UInt8) : Option (List Int) :=
  if s = [] then some [] else match runP (splitB 46 s) with
    | none => none
    | some p => if okP s p then some p else none
end Go.Proofs.YtbgkohfifcfofaaDoor
