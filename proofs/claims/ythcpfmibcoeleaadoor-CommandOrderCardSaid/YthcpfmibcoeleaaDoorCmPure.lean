/- A line's command, or what is wrong: the plain law, without the program. -/
import Derived.Test.YthcpfmibcoeleaaDoorIdText
import Derived.Test.YthcpfmibcoeleaaDoorForms
import Derived.Lib.IndexMore
namespace Go.Proofs.YthcpfmibcoeleaaDoor.Cm
open Go Go.RowKit Am Go.Proofs.YthcpfmibcoeleaaDoor.Id
set_option linter.unusedSimpArgs false
set_option linter.unusedVariables false
structure Cmd where
  name : List UInt8
  nums : List Int
  pane : Int × Int × Int
  text : List UInt8
def named (s : List UInt8) : Cmd := ⟨s, [], (0, 0, 0), []⟩
/-- What stands ahead of the first blank, what stands behind it, and whether there is one. -/
def cutB : List UInt8 → List UInt8 × List UInt8 × Bool
  | [] => ([], [], false)
  | c :: r => if c = 32 then ([], r, true) else (c :: (cutB r).1, (cutB r).2.1, (cutB r).2.2)
theorem cutB_miss : ∀ {s : List UInt8}, (∀ b ∈ s, b ≠ 32) → cutB s = (s, [], false)
  | [], _ => rfl
  | c :: r, h => by
    have h0 : ¬ c = 32 := h c (by simp)
    have ih := cutB_miss (s := r) fun b hb => h b (by simp [hb])
    simp [cutB, h0, ih]
theorem cutB_hit : ∀ {s : List UInt8}, (∀ b ∈ s, b ≠ 32) → ∀ r, cutB (s ++ 32 :: r) = (s, r, true)
  | [], _, r => by simp [cutB]
  | c :: t, h, r => by
    have h0 : ¬ c = 32 := h c (by simp)
    have ih := cutB_hit (s := t) (fun b hb => h b (by simp [hb])) r
    simp [cutB, h0, ih]
theorem index_miss : ∀ {s : List UInt8}, (∀ b ∈ s, b ≠ 32) → Lib.index s [32] = -1
  | [], _ => rfl
  | c :: r, h => by
    have h0 : ¬ 32 = c := fun e => h c (by simp) e.symm
    have ih := index_miss (s := r) fun b hb => h b (by simp [hb])
    have hp : List.isPrefixOf [32] (c :: r) = false := by simp [List.isPrefixOf, h0]
    rw [Lib.index, hp, ih]
    rfl
theorem blank_cases : ∀ s : List UInt8, (∀ b ∈ s, b ≠ 32) ∨ ∃ x r, s = x ++ 32 :: r ∧ ∀ b ∈ x, b ≠ 32
  | [] => .inl fun b hb => by cases hb
  | c :: r => by
    by_cases hc : c = 32
    · exact .inr ⟨[], r, by rw [hc]; rfl, fun b hb => by cases hb⟩
    · rcases blank_cases r with h | ⟨x, r', h1, h2⟩
      · exact .inl fun b hb => by
          rcases List.mem_cons.1 hb with rfl | hb
          · exact hc
          · exact h b hb
      · exact .inr ⟨c :: x, r', by rw [h1]; rfl, fun b hb => by
          rcases List.mem_cons.1 hb with rfl | hb
          · exact hc
          · exact h2 b hb⟩
theorem cut_eq (s : List UInt8) : Lib.cut s [32] = cutB s := by
  rcases blank_cases s with h | ⟨x, r, rfl, h⟩
  · rw [cutB_miss h]
    unfold Lib.cut
    rw [index_miss h]
    rfl
  · rw [cutB_hit h]
    unfold Lib.cut
    rw [index_at h, if_pos (by omega)]
    have hd : (x ++ 32 :: r).drop (x.length + 1) = r := by
      rw [show x.length + 1 = (x ++ [32]).length by simp, show x ++ 32 :: r = (x ++ [32]) ++ r by simp, List.drop_left]
    simp [hd]
theorem cutB_len : ∀ s : List UInt8, (cutB s).1.length ≤ s.length ∧ (cutB s).2.1.length ≤ s.length
  | [] => ⟨by simp [cutB], by simp [cutB]⟩
  | c :: r => by
    have ih := cutB_len r
    by_cases hc : c = 32
    · simp [cutB, hc]
    · simp [cutB, hc]
      omega
/-- A word's number. -/
def numF (w : List UInt8) : Option Int := match Lib.atoiAll w with
  | .ok n => if Lib.itoa n = w ∧ -9999 ≤ n ∧ n ≤ 9999 then some n else none
  | _ => none
def paneF (w : List UInt8) : Option (Int × Int × Int) := (refF w).map fun x => ((x.1 : Int), (x.2.1 : Int), (x.2.2 : Int))
def fineB (b : UInt8) : Bool := decide (32 ≤ b.toNat) && decide (b.toNat ≤ 126)
def allB (s : List UInt8) : Bool := s.all fineB
def fineF (s : List UInt8) : Bool := decide (1 ≤ s.length) && decide (s.length ≤ 200) && allB s
def stepF (f : UInt8) (w : List UInt8) (c : Cmd) : Option Cmd :=
  if f = 108 then (match numF w with
    | some n => if 0 ≤ n ∧ n < 64 then some { c with nums := c.nums ++ [n] } else none
    | none => none)
  else if f = 110 then (match numF w with
    | some n => some { c with nums := c.nums ++ [n] }
    | none => none)
  else if f = 112 then (match paneF w with
    | some p => some { c with pane := p }
    | none => none)
  else if fineF w then some { c with text := w } else none
def loopF : List UInt8 → Cmd → List UInt8 → Bool → Option Cmd
  | [], c, _, more => if more then none else some c
  | f :: fs, c, rest, more => if more then
      (if f = 116 then (match stepF f rest c with
        | some d => loopF fs d rest false
        | none => none)
      else (match stepF f (cutB rest).1 c with
        | some d => loopF fs d (cutB rest).2.1 (cutB rest).2.2
        | none => none))
    else none
def formOf (s : List UInt8) : Option (List UInt8) := lookP s Fns.table
inductive Res where
  | long
  | none
  | form
  | ok (c : Cmd)
def parseF (line : List UInt8) : Res := if 256 < line.length then .long else match formOf (cutB line).1 with
  | none => .none
  | some form => match loopF form (named (cutB line).1) (cutB line).2.1 (cutB line).2.2 with
    | none => .form
    | some c => .ok c
/-- The order in which it is told. -/
theorem order_bare {name : List UInt8} (h : ∀ b ∈ name, b ≠ 32) (hl : name.length ≤ 40) : parseF name = match formOf name with
    | none => .none
    | some [] => .ok (named name)
    | some _ => .form := by
  unfold parseF
  rw [if_neg (by omega), cutB_miss h]
  dsimp only
  cases formOf name with
  | none => rfl
  | some form => cases form <;> simp [loopF]
theorem order_more {name rest : List UInt8} (h : ∀ b ∈ name, b ≠ 32) (hl : ¬ 256 < (name ++ 32 :: rest).length) : (formOf name = none → parseF (name ++ 32 :: rest) = .none) ∧ (formOf name = some [] → parseF (name ++ 32 :: rest) = .form) ∧
    (∀ f fs, formOf name = some (f :: fs) → parseF (name ++ 32 :: rest) = .form ∨ ∃ c, parseF (name ++ 32 :: rest) = .ok c) := by
  have e : parseF (name ++ 32 :: rest) = match formOf name with
      | none => .none
      | some form => match loopF form (named name) rest true with
        | none => .form
        | some c => .ok c := by unfold parseF; rw [if_neg hl, cutB_hit h]
  rw [e]
  refine ⟨fun h => by rw [h], fun h => by rw [h]; rfl, fun f fs h => ?_⟩
  rw [h]
  dsimp only
  cases loopF (f :: fs) (named name) rest true with
  | none => exact .inl rfl
  | some c => exact .inr ⟨c, rfl⟩
end Go.Proofs.YthcpfmibcoeleaaDoor.Cm
