/- The plain law of strings.SplitSeq at one byte. -/
import Derived.Lib.Bytealg
import Derived.Lib.IndexLaws
namespace Go.Proofs.YtbgkohfifcfofaaDoor
/-- The pieces between c's. -/
def splitB (c : UInt8) : List UInt8 → List (List UInt8)
  | [] => [[]]
  | b :: l => if b = c then [] :: splitB c l else match splitB c l with
    | [] => [[b]]
    | w :: ws => (b :: w) :: ws
theorem splitB_none {c : UInt8} : ∀ {l : List UInt8}, (∀ k : Nat, l[k]? ≠ some c) → splitB c l = [l]
  | [], _ => rfl
  | b :: l, h => by
    have hb : b ≠ c := fun e => h 0 (by simp [e])
    have ih := splitB_none (c := c) (l := l) (fun k => by have := h (k + 1); simpa using this)
    simp [splitB, hb, ih]
theorem splitB_at {c : UInt8} : ∀ {l : List UInt8} {m : Nat}, l[m]? = some c → (∀ k : Nat, k < m → l[k]? ≠ some c) → splitB c l = l.take m :: splitB c (l.drop (m + 1))
  | [], m, h, _ => by simp at h
  | b :: l, 0, h, _ => by simp at h; subst h; simp [splitB]
  | b :: l, m + 1, h, hk => by
    have hb : b ≠ c := fun e => hk 0 (by omega) (by simp [e])
    have ih := splitB_at (c := c) (l := l) (m := m) (by simpa using h) (fun k hlt => by have := hk (k + 1) (by omega); simpa using this)
    simp [splitB, hb, ih]
/-- Where the next c stands. -/
theorem index_cases (l : List UInt8) (c : UInt8) : (Lib.indexByte l c = -1 ∧ splitB c l = [l]) ∨ ∃ m : Nat, Lib.indexByte l c = (m : Int) ∧ m < l.length ∧ splitB c l = l.take m :: splitB c (l.drop (m + 1)) := by
  have hge := Lib.indexByte_ge l c
  by_cases h : Lib.indexByte l c = -1
  · exact .inl ⟨h, splitB_none (Lib.indexByte_none h)⟩
  · obtain ⟨m, hm⟩ := Int.eq_ofNat_of_zero_le (show 0 ≤ Lib.indexByte l c by omega)
    obtain ⟨h1, h2⟩ := Lib.indexByte_some hm
    exact .inr ⟨m, hm, (List.getElem?_eq_some_iff.1 h1).1, splitB_at h1 h2⟩
end Go.Proofs.YtbgkohfifcfofaaDoor
