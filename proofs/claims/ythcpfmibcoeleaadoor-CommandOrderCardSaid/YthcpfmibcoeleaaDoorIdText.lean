/- A text's name, the document's way: no program. -/
import Derived.Test.YthcpfmibcoeleaaDoorIdNum
namespace Go.Proofs.YthcpfmibcoeleaaDoor.Id
open Go
set_option linter.unusedSimpArgs false
set_option linter.unusedVariables false
/-- A number, and a point behind it. -/
def numDot (r : List UInt8) : Option (Nat × List UInt8) := match numD r with
  | some (n, k) => match r.drop k with
    | 46 :: r' => some (n, r')
    | _ => none
  | none => none
def refF (s : List UInt8) : Option (Nat × Nat × Nat) := match s with
  | 112 :: r => match numDot r with
    | some (a, r2) => match numDot r2 with
      | some (b, r3) => match numD r3 with
        | some (c, k) => if k = r3.length then some (a, b, c) else none
        | none => none
      | none => none
    | none => none
  | _ => none
theorem numDot_some {r r' : List UInt8} {n : Nat} (h : numDot r = some (n, r')) : n ≤ 2147483647 ∧ r = Lib.decDigits n ++ 46 :: r' := by
  unfold numDot at h
  split at h
  · rename_i n' k hn
    obtain ⟨h1, h2, h3, _⟩ := num_some hn
    split at h
    · rename_i r2 hr
      cases h
      rw [hr] at h3
      exact ⟨h1, h3⟩
    · cases h
  · cases h
theorem numDot_of {n : Nat} (hn : n ≤ 2147483647) (m : List UInt8) : numDot (Lib.decDigits n ++ 46 :: m) = some (n, m) := by
  unfold numDot
  rw [num_of hn (46 :: m) (fun c hc => by simp at hc; rw [← hc]; rfl)]
  simp
theorem refF_of {a b c : Nat} (ha : a ≤ 2147483647) (hb : b ≤ 2147483647) (hc : c ≤ 2147483647) : refF (wordsF a b c) = some (a, b, c) := by
  have h0 : ∀ n : Nat, Lib.itoa (n : Int) = Lib.decDigits n := fun n => by rw [itoa_pos (by omega)]; simp
  unfold wordsF refF
  simp only [h0]
  rw [numDot_of ha]
  simp only
  rw [numDot_of hb]
  simp only
  have := num_of hc [] (fun c h => by cases h)
  rw [List.append_nil] at this
  rw [this]
  simp
theorem refF_some {s : List UInt8} {a b c : Nat} (h : refF s = some (a, b, c)) : a ≤ 2147483647 ∧ b ≤ 2147483647 ∧ c ≤ 2147483647 ∧ s = wordsF a b c := by
  have h0 : ∀ n : Nat, Lib.itoa (n : Int) = Lib.decDigits n := fun n => by rw [itoa_pos (by omega)]; simp
  unfold refF at h
  split at h
  · rename_i r
    split at h
    · rename_i a' r2 h1
      split at h
      · rename_i b' r3 h2
        split at h
        · rename_i c' k h3
          split at h
          · rename_i hk
            cases h
            obtain ⟨n1, e1⟩ := numDot_some h1
            obtain ⟨n2, e2⟩ := numDot_some h2
            obtain ⟨n3, _, e3, _⟩ := num_some h3
            rw [hk, List.drop_length, List.append_nil] at e3
            refine ⟨n1, n2, n3, ?_⟩
            unfold wordsF
            simp only [h0]
            rw [e1, e2, ← e3]
          · cases h
        · cases h
      · cases h
    · cases h
  · cases h
end Go.Proofs.YthcpfmibcoeleaaDoor.Id
