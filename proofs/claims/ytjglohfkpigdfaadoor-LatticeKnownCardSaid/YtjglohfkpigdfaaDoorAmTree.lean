/- Trees for the evaluator: what is stored under a number. -/
import Derived.Test.YtjglohfkpigdfaaDoorAmForce
set_option linter.unusedSimpArgs false
set_option linter.unusedVariables false
set_option linter.unusedSectionVars false
set_option linter.unnecessarySimpa false
namespace Am
open Go Go.RowKit
universe u
inductive BT (α : Type) where
  | nil
  | node (x : α) (l r : BT α)
noncomputable section
section
variable {α : Type} {β : Type u}
def BT.get (d : α) (t : BT α) : Nat → α :=
  BT.rec (motive := fun _ => Nat → α) (fun _ => d)
    (fun x _ _ gl gr i => Nat.casesOn (motive := fun _ => α) i x (fun j => Bool.casesOn (motive := fun _ => α) (Nat.beq (Nat.mod j 2) 0) (gr (Nat.div j 2)) (gl (Nat.div j 2)))) t
def BT.mkK (d : α) (f : Nat) : Nat → α → (BT α → β) → β :=
  Nat.rec (motive := fun _ => Nat → α → (BT α → β) → β) (fun _ v k => k (.node v .nil .nil))
    (fun _ ih i v k => Nat.casesOn (motive := fun _ => β) i (k (.node v .nil .nil)) (fun j => Bool.casesOn (motive := fun _ => β) (Nat.beq (Nat.mod j 2) 0)
      (ih (Nat.div j 2) v fun t => k (.node d .nil t)) (ih (Nat.div j 2) v fun t => k (.node d t .nil)))) f
def BT.setK (d : α) (t : BT α) : Nat → α → (BT α → β) → β :=
  BT.rec (motive := fun _ => Nat → α → (BT α → β) → β) (fun i v k => BT.mkK d i i v k)
    (fun x l r sl sr i v k => Nat.casesOn (motive := fun _ => β) i (k (.node v l r)) (fun j => Bool.casesOn (motive := fun _ => β) (Nat.beq (Nat.mod j 2) 0)
      (sr (Nat.div j 2) v fun r => k (.node x l r)) (sl (Nat.div j 2) v fun l => k (.node x l r)))) t
end
section
variable {α : Type} {β : Type u}
def BT.mk (d : α) (f i : Nat) (v : α) : BT α := BT.mkK d f i v id
def BT.set (d : α) (t : BT α) (i : Nat) (v : α) : BT α := BT.setK d t i v id
theorem BT.mkK_eq (d : α) (f i : Nat) (v : α) (k : BT α → β) : BT.mkK d f i v k = k (BT.mk d f i v) := by
  induction f generalizing i k with
  | zero => rfl
  | succ f ih =>
    cases i with
    | zero => rfl
    | succ j =>
      have e1 : ∀ (γ : Type u) (k : BT α → γ), BT.mkK d (f + 1) (j + 1) v k = Bool.casesOn (motive := fun _ => γ) (Nat.beq (Nat.mod j 2) 0) (BT.mkK d f (Nat.div j 2) v fun t => k (.node d .nil t)) (BT.mkK d f (Nat.div j 2) v fun t => k (.node d t .nil)) := fun _ _ => rfl
      have e2 : BT.mk d (f + 1) (j + 1) v = Bool.casesOn (motive := fun _ => BT α) (Nat.beq (Nat.mod j 2) 0) (BT.mkK d f (Nat.div j 2) v fun t => (.node d .nil t)) (BT.mkK d f (Nat.div j 2) v fun t => (.node d t .nil)) := rfl
      rw [e1, e2]
      cases Nat.beq (Nat.mod j 2) 0
      · show BT.mkK d f (Nat.div j 2) v _ = k (BT.mkK d f (Nat.div j 2) v _)
        rw [ih]
        congr 1
        have := BT.mkK_eq0 d f (Nat.div j 2) v (fun t => BT.node d .nil t)
        exact this.symm
      · show BT.mkK d f (Nat.div j 2) v _ = k (BT.mkK d f (Nat.div j 2) v _)
        rw [ih]
        congr 1
        have := BT.mkK_eq0 d f (Nat.div j 2) v (fun t => BT.node d t .nil)
        exact this.symm
where
  BT.mkK_eq0 (d : α) (f i : Nat) (v : α) (k : BT α → BT α) : BT.mkK d f i v k = k (BT.mk d f i v) := by
    induction f generalizing i k with
    | zero => rfl
    | succ f ih =>
      cases i with
      | zero => rfl
      | succ j =>
        have e1 : ∀ (k : BT α → BT α), BT.mkK d (f + 1) (j + 1) v k = Bool.casesOn (motive := fun _ => BT α) (Nat.beq (Nat.mod j 2) 0) (BT.mkK d f (Nat.div j 2) v fun t => k (.node d .nil t)) (BT.mkK d f (Nat.div j 2) v fun t => k (.node d t .nil)) := fun _ => rfl
        unfold BT.mk
        rw [e1, e1]
        cases Nat.beq (Nat.mod j 2) 0
        · show BT.mkK d f (Nat.div j 2) v _ = k (BT.mkK d f (Nat.div j 2) v _)
          rw [ih, ih]; rfl
        · show BT.mkK d f (Nat.div j 2) v _ = k (BT.mkK d f (Nat.div j 2) v _)
          rw [ih, ih]; rfl
theorem BT.setK_eq0 (d : α) (t : BT α) (i : Nat) (v : α) (k : BT α → BT α) : BT.setK d t i v k = k (BT.set d t i v) := by
  induction t generalizing i k with
  | nil => exact (BT.mkK_eq d i i v k).trans (congrArg k (BT.mkK_eq d i i v id).symm)
  | node x l r ihl ihr =>
    cases i with
    | zero => rfl
    | succ j =>
      have e1 : ∀ (k : BT α → BT α), BT.setK d (.node x l r) (j + 1) v k = Bool.casesOn (motive := fun _ => BT α) (Nat.beq (Nat.mod j 2) 0) (BT.setK d r (Nat.div j 2) v fun r => k (.node x l r)) (BT.setK d l (Nat.div j 2) v fun l => k (.node x l r)) := fun _ => rfl
      unfold BT.set
      rw [e1, e1]
      cases Nat.beq (Nat.mod j 2) 0
      · show BT.setK d r (Nat.div j 2) v _ = k (BT.setK d r (Nat.div j 2) v _)
        rw [ihr, ihr]; rfl
      · show BT.setK d l (Nat.div j 2) v _ = k (BT.setK d l (Nat.div j 2) v _)
        rw [ihl, ihl]; rfl
theorem BT.setK_eq (d : α) (t : BT α) (i : Nat) (v : α) (k : BT α → β) : BT.setK d t i v k = k (BT.set d t i v) := by
  induction t generalizing i k with
  | nil => exact (BT.mkK_eq d i i v k).trans (congrArg k (BT.mkK_eq d i i v id).symm)
  | node x l r ihl ihr =>
    cases i with
    | zero => rfl
    | succ j =>
      have e1 : ∀ (γ : Type u) (k : BT α → γ), BT.setK d (.node x l r) (j + 1) v k = Bool.casesOn (motive := fun _ => γ) (Nat.beq (Nat.mod j 2) 0) (BT.setK d r (Nat.div j 2) v fun r => k (.node x l r)) (BT.setK d l (Nat.div j 2) v fun l => k (.node x l r)) := fun _ _ => rfl
      have e2 : BT.set d (.node x l r) (j + 1) v = Bool.casesOn (motive := fun _ => BT α) (Nat.beq (Nat.mod j 2) 0) (BT.setK d r (Nat.div j 2) v fun r => (.node x l r)) (BT.setK d l (Nat.div j 2) v fun l => (.node x l r)) := rfl
      rw [e1, e2]
      cases Nat.beq (Nat.mod j 2) 0
      · show BT.setK d r (Nat.div j 2) v _ = k (BT.setK d r (Nat.div j 2) v _)
        rw [ihr, BT.setK_eq0]
      · show BT.setK d l (Nat.div j 2) v _ = k (BT.setK d l (Nat.div j 2) v _)
        rw [ihl, BT.setK_eq0]
theorem BT.get_nil (d : α) (i : Nat) : (BT.nil : BT α).get d i = d := rfl
theorem BT.get_zero (d : α) (x : α) (l r : BT α) : (BT.node x l r).get d 0 = x := rfl
theorem BT.get_succ (d : α) (x : α) (l r : BT α) (j : Nat) : (BT.node x l r).get d (j + 1) = if j % 2 = 0 then l.get d (j / 2) else r.get d (j / 2) := by
  show Bool.casesOn (motive := fun _ => α) (Nat.beq (j % 2) 0) (r.get d (j / 2)) (l.get d (j / 2)) = _
  cases h : Nat.beq (j % 2) 0
  · rw [if_neg (by intro h'; rw [h'] at h; cases h)]
  · rw [if_pos (Nat.eq_of_beq_eq_true h)]
theorem BT.mk_zero (d : α) (f : Nat) (v : α) : BT.mk d f 0 v = .node v .nil .nil := by cases f <;> rfl
theorem BT.mk_succ (d : α) (f j : Nat) (v : α) : BT.mk d (f + 1) (j + 1) v = if j % 2 = 0 then .node d (BT.mk d f (j / 2) v) .nil else .node d .nil (BT.mk d f (j / 2) v) := by
  show Bool.casesOn (motive := fun _ => BT α) (Nat.beq (j % 2) 0) (BT.mkK d f (j / 2) v fun t => (.node d .nil t)) (BT.mkK d f (j / 2) v fun t => (.node d t .nil)) = _
  rw [BT.mkK_eq, BT.mkK_eq]
  cases h : Nat.beq (j % 2) 0
  · rw [if_neg (by intro h'; rw [h'] at h; cases h)]
  · rw [if_pos (Nat.eq_of_beq_eq_true h)]
theorem BT.set_zero (d : α) (x : α) (l r : BT α) (v : α) : BT.set d (.node x l r) 0 v = .node v l r := rfl
theorem BT.set_succ (d : α) (x : α) (l r : BT α) (j : Nat) (v : α) : BT.set d (.node x l r) (j + 1) v = if j % 2 = 0 then .node x (BT.set d l (j / 2) v) r else .node x l (BT.set d r (j / 2) v) := by
  show Bool.casesOn (motive := fun _ => BT α) (Nat.beq (j % 2) 0) (BT.setK d r (j / 2) v fun r => (.node x l r)) (BT.setK d l (j / 2) v fun l => (.node x l r)) = _
  rw [BT.setK_eq, BT.setK_eq]
  cases h : Nat.beq (j % 2) 0
  · rw [if_neg (by intro h'; rw [h'] at h; cases h)]
  · rw [if_pos (Nat.eq_of_beq_eq_true h)]
theorem BT.get_mk (d : α) : ∀ (f i : Nat) (v : α) (s : Nat), i ≤ f → (BT.mk d f i v).get d s = if s = i then v else d
  | f, 0, v, s, _ => by
    rw [BT.mk_zero]
    cases s with
    | zero => rfl
    | succ m => rw [BT.get_succ]; simp [BT.get_nil]
  | 0, i + 1, v, s, h => by omega
  | f + 1, j + 1, v, s, h => by
    rw [BT.mk_succ]
    cases s with
    | zero => split <;> simp [BT.get_zero]
    | succ m =>
      split
      · rename_i hj
        rw [BT.get_succ, BT.get_mk d f (j / 2) v (m / 2) (by omega), BT.get_nil]
        by_cases hm : m = j
        · subst hm; simp [hj]
        · rw [if_neg (by omega : ¬ m + 1 = j + 1)]
          split
          · rw [if_neg (by omega)]
          · rfl
      · rename_i hj
        rw [BT.get_succ, BT.get_mk d f (j / 2) v (m / 2) (by omega), BT.get_nil]
        by_cases hm : m = j
        · subst hm; simp [hj]
        · rw [if_neg (by omega : ¬ m + 1 = j + 1)]
          split
          · rfl
          · rw [if_neg (by omega)]
theorem BT.get_set (d : α) (t : BT α) (i : Nat) (v : α) (s : Nat) : (BT.set d t i v).get d s = if s = i then v else t.get d s := by
  induction t generalizing i s with
  | nil =>
    have : BT.set d (.nil : BT α) i v = BT.mk d i i v := BT.mkK_eq d i i v id
    rw [this, BT.get_mk d i i v s (Nat.le_refl _), BT.get_nil]
  | node x l r ihl ihr =>
    cases i with
    | zero =>
      rw [BT.set_zero]
      cases s with
      | zero => rfl
      | succ m => rw [BT.get_succ, BT.get_succ]; simp
    | succ j =>
      rw [BT.set_succ]
      cases s with
      | zero => split <;> simp [BT.get_zero]
      | succ m =>
        split
        · rename_i hj
          rw [BT.get_succ, BT.get_succ, ihl]
          by_cases hm : m = j
          · subst hm; simp [hj]
          · rw [if_neg (by omega : ¬ m + 1 = j + 1)]
            split
            · rw [if_neg (by omega)]
            · rfl
        · rename_i hj
          rw [BT.get_succ, BT.get_succ, ihr]
          by_cases hm : m = j
          · subst hm; simp [hj]
          · rw [if_neg (by omega : ¬ m + 1 = j + 1)]
            split
            · rfl
            · rw [if_neg (by omega)]
end
end
end Am
