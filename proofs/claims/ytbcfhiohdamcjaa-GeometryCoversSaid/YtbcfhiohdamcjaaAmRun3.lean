/- Trees for the evaluator: what is stored under a number. -/
import Derived.Test.YtbcfhiohdamcjaaAmEval
set_option linter.unusedSimpArgs false
set_option linter.unusedVariables false
set_option linter.unusedSectionVars false
set_option linter.unnecessarySimpa false
namespace Am
open Go Go.RowKit
universe u
inductive BT (α : Type) where
  | nil
  | node (x : α) (l r : BT α)
noncomputable section
section
variable {α : Type} {β : Type u}
def BT.get (d : α) (t : BT α) : Nat → α :=
  BT.rec (motive := fun _ => Nat → α) (fun _ => d)
    (fun x _ _ gl gr i => Nat.casesOn (motive := fun _ => α) i x (fun j => Bool.casesOn (motive := fun _ => α) (Nat.beq (Nat.mod j 2) 0) (gr (Nat.div j 2)) (gl (Nat.div j 2)))) t
def BT.mkK (d : α) (f : Nat) : Nat → α → (BT α → β) → β :=
  Nat.rec (motive := fun _ => Nat → α → (BT α → β) → β) (fun _ v k => k (.node v .nil .nil))
    (fun _ ih i v k => Nat.casesOn (motive := fun _ => β) i (k (.node v .nil .nil)) (fun j => Bool.casesOn (motive := fun _ => β) (Nat.beq (Nat.mod j 2) 0)
      (ih (Nat.div j 2) v fun t => k (.node d .nil t)) (ih (Nat.div j 2) v fun t => k (.node d t .nil)))) f
def BT.setK (d : α) (t : BT α) : Nat → α → (BT α → β) → β :=
  BT.rec (motive := fun _ => Nat → α → (BT α → β) → β) (fun i v k => BT.mkK d i i v k)
    (fun x l r sl sr i v k => Nat.casesOn (motive := fun _ => β) i (k (.node v l r)) (fun j => Bool.casesOn (motive := fun _ => β) (Nat.beq (Nat.mod j 2) 0)
      (sr (Nat.div j 2) v fun r => k (.node x l r)) (sl (Nat.div j 2) v fun l => k (.node x l r)))) t
end
section
variable {α : Type} {β : Type u}
def BT.mk (d : α) (f i : Nat) (v : α) : BT α := BT.mkK d f i v id
def BT.set (d : α) (t : BT α) (i : Nat) (v : α) : BT α := BT.setK d t i v id
theorem BT.mkK_eq (d : α) (f i : Nat) (v : α) (k : BT α → β) : BT.mkK d f i v k = k (BT.mk d f i v) := by
  induction f generalizing i k with
  | zero => rfl
  | succ f ih =>
    cases i with
    | zero => rfl
    | succ j =>
      have e1 : ∀ (γ : Type u) (k : BT α → γ), BT.mkK d (f + 1) (j + 1) v k = Bool.casesOn (motive := fun _ => γ) (Nat.beq (Nat.mod j 2) 0) (BT.mkK d f (Nat.div j 2) v fun t => k (.node d .nil t)) (BT.mkK d f (Nat.div j 2) v fun t => k (.node d t .nil)) := fun _ _ => rfl
      have e2 : BT.mk d (f + 1) (j + 1) v = Bool.casesOn (motive := fun _ => BT α) (Nat.beq (Nat.mod j 2) 0) (BT.mkK d f (Nat.div j 2) v fun t => (.node d .nil t)) (BT.mkK d f (Nat.div j 2) v fun t => (.node d t .nil)) := rfl
      rw [e1, e2]
      cases Nat.beq (Nat.mod j 2) 0
      · show BT.mkK d f (Nat.div j 2) v _ = k (BT.mkK d f (Nat.div j 2) v _)
        rw [ih]
        congr 1
        have := BT.mkK_eq0 d f (Nat.div j 2) v (fun t => BT.node d .nil t)
        exact this.symm
      · show BT.mkK d f (Nat.div j 2) v _ = k (BT.mkK d f (Nat.div j 2) v _)
        rw [ih]
        congr 1
        have := BT.mkK_eq0 d f (Nat.div j 2) v (fun t => BT.node d t .nil)
        exact this.symm
where
  BT.mkK_eq0 (d : α) (f i : Nat) (v : α) (k : BT α → BT α) : BT.mkK d f i v k = k (BT.mk d f i v) := by
    induction f generalizing i k with
    | zero => rfl
    | succ f ih =>
      cases i with
      | zero => rfl
      | succ j =>
        have e1 : ∀ (k : BT α → BT α), BT.mkK d (f + 1) (j + 1) v k = Bool.casesOn (motive := fun _ => BT α) (Nat.beq (Nat.mod j 2) 0) (BT.mkK d f (Nat.div j 2) v fun t => k (.node d .nil t)) (BT.mkK d f (Nat.div j 2) v fun t => k (.node d t .nil)) := fun _ => rfl
        unfold BT.mk
        rw [e1, e1]
        cases Nat.beq (Nat.mod j 2) 0
        · show BT.mkK d f (Nat.div j 2) v _ = k (BT.mkK d f (Nat.div j 2) v _)
          rw [ih, ih]; rfl
        · show BT.mkK d f (Nat.div j 2) v _ = k (BT.mkK d f (Nat.div j 2) v _)
          rw [ih, ih]; rfl
theorem BT.setK_eq0 (d : α) (t : BT α) (i : Nat) (v : α) (k : BT α → BT α) : BT.setK d t i v k = k (BT.set d t i v) := by
  induction t generalizing i k with
  | nil => exact (BT.mkK_eq d i i v k).trans (congrArg k (BT.mkK_eq d i i v id).symm)
  | node x l r ihl ihr =>
    cases i with
    | zero => rfl
    | succ j =>
      have e1 : ∀ (k : BT α → BT α), BT.setK d (.node x l r) (j + 1) v k = Bool.casesOn (motive := fun _ => BT α) (Nat.beq (Nat.mod j 2) 0) (BT.setK d r (Nat.div j 2) v fun r => k (.node x l r)) (BT.setK d l (Nat.div j 2) v fun l => k (.node x l r)) := fun _ => rfl
      unfold BT.set
      rw [e1, e1]
      cases Nat.beq (Nat.mod j 2) 0
      · show BT.setK d r (Nat.div j 2) v _ = k (BT.setK d r (Nat.div j 2) v _)
        rw [ihr, ihr]; rfl
      · show BT.setK d l (Nat.div j 2) v _ = k (BT.setK d l (Nat.div j 2) v _)
        rw [ihl, ihl]; rfl
theorem BT.setK_eq (d : α) (t : BT α) (i : Nat) (v : α) (k : BT α → β) : BT.setK d t i v k = k (BT.set d t i v) := by
  induction t generalizing i k with
  | nil => exact (BT.mkK_eq d i i v k).trans (congrArg k (BT.mkK_eq d i i v id).symm)
  | node x l r ihl ihr =>
    cases i with
    | zero => rfl
    | succ j =>
      have e1 : ∀ (γ : Type u) (k : BT α → γ), BT.setK d (.node x l r) (j + 1) v k = Bool.casesOn (motive := fun _ => γ) (Nat.beq (Nat.mod j 2) 0) (BT.setK d r (Nat.div j 2) v fun r => k (.node x l r)) (BT.setK d l (Nat.div j 2) v fun l => k (.node x l r)) := fun _ _ => rfl
      have e2 : BT.set d (.node x l r) (j + 1) v = Bool.casesOn (motive := fun _ => BT α) (Nat.beq (Nat.mod j 2) 0) (BT.setK d r (Nat.div j 2) v fun r => (.node x l r)) (BT.setK d l (Nat.div j 2) v fun l => (.node x l r)) := rfl
      rw [e1, e2]
      cases Nat.beq (Nat.mod j 2) 0
      · show BT.setK d r (Nat.div j 2) v _ = k (BT.setK d r (Nat.div j 2) v _)
        rw [ihr, BT.setK_eq0]
      · show BT.setK d l (Nat.div j 2) v _ = k (BT.setK d l (Nat.div j 2) v _)
        rw [ihl, BT.setK_eq0]
theorem BT.get_nil (d : α) (i : Nat) : (BT.nil : BT α).get d i = d := rfl
theorem BT.get_zero (d : α) (x : α) (l r : BT α) : (BT.node x l r).get d 0 = x := rfl
theorem BT.get_succ (d : α) (x : α) (l r : BT α) (j : Nat) : (BT.node x l r).get d (j + 1) = if j % 2 = 0 then l.get d (j / 2) else r.get d (j / 2) := by
  show Bool.casesOn (motive := fun _ => α) (Nat.beq (j % 2) 0) (r.get d (j / 2)) (l.get d (j / 2)) = _
  cases h : Nat.beq (j % 2) 0
  · rw [if_neg (by intro h'; rw [h'] at h; cases h)]
  · rw [if_pos (Nat.eq_of_beq_eq_true h)]
theorem BT.mk_zero (d : α) (f : Nat) (v : α) : BT.mk d f 0 v = .node v .nil .nil := by cases f <;> rfl
theorem BT.mk_succ (d : α) (f j : Nat) (v : α) : BT.mk d (f + 1) (j + 1) v = if j % 2 = 0 then .node d (BT.mk d f (j / 2) v) .nil else .node d .nil (BT.mk d f (j / 2) v) := by
  show Bool.casesOn (motive := fun _ => BT α) (Nat.beq (j % 2) 0) (BT.mkK d f (j / 2) v fun t => (.node d .nil t)) (BT.mkK d f (j / 2) v fun t => (.node d t .nil)) = _
  rw [BT.mkK_eq, BT.mkK_eq]
  cases h : Nat.beq (j % 2) 0
  · rw [if_neg (by intro h'; rw [h'] at h; cases h)]
  · rw [if_pos (Nat.eq_of_beq_eq_true h)]
theorem BT.set_zero (d : α) (x : α) (l r : BT α) (v : α) : BT.set d (.node x l r) 0 v = .node v l r := rfl
theorem BT.set_succ (d : α) (x : α) (l r : BT α) (j : Nat) (v : α) : BT.set d (.node x l r) (j + 1) v = if j % 2 = 0 then .node x (BT.set d l (j / 2) v) r else .node x l (BT.set d r (j / 2) v) := by
  show Bool.casesOn (motive := fun _ => BT α) (Nat.beq (j % 2) 0) (BT.setK d r (j / 2) v fun r => (.node x l r)) (BT.setK d l (j / 2) v fun l => (.node x l r)) = _
  rw [BT.setK_eq, BT.setK_eq]
  cases h : Nat.beq (j % 2) 0
  · rw [if_neg (by intro h'; rw [h'] at h; cases h)]
  · rw [if_pos (Nat.eq_of_beq_eq_true h)]
theorem BT.get_mk (d : α) : ∀ (f i : Nat) (v : α) (s : Nat), i ≤ f → (BT.mk d f i v).get d s = if s = i then v else d
  | f, 0, v, s, _ => by
    rw [BT.mk_zero]
    cases s with
    | zero => rfl
    | succ m => rw [BT.get_succ]; simp [BT.get_nil]
  | 0, i + 1, v, s, h => by omega
  | f + 1, j + 1, v, s, h => by
    rw [BT.mk_succ]
    cases s with
    | zero => split <;> simp [BT.get_zero]
    | succ m =>
      split
      · rename_i hj
        rw [BT.get_succ, BT.get_mk d f (j / 2) v (m / 2) (by omega), BT.get_nil]
        by_cases hm : m = j
        · subst hm; simp [hj]
        · rw [if_neg (by omega : ¬ m + 1 = j + 1)]
          split
          · rw [if_neg (by omega)]
          · rfl
      · rename_i hj
        rw [BT.get_succ, BT.get_mk d f (j / 2) v (m / 2) (by omega), BT.get_nil]
        by_cases hm : m = j
        · subst hm; simp [hj]
        · rw [if_neg (by omega : ¬ m + 1 = j + 1)]
          split
          · rfl
          · rw [if_neg (by omega)]
theorem BT.get_set (d : α) (t : BT α) (i : Nat) (v : α) (s : Nat) : (BT.set d t i v).get d s = if s = i then v else t.get d s := by
  induction t generalizing i s with
  | nil =>
    have : BT.set d (.nil : BT α) i v = BT.mk d i i v := BT.mkK_eq d i i v id
    rw [this, BT.get_mk d i i v s (Nat.le_refl _), BT.get_nil]
  | node x l r ihl ihr =>
    cases i with
    | zero =>
      rw [BT.set_zero]
      cases s with
      | zero => rfl
      | succ m => rw [BT.get_succ, BT.get_succ]; simp
    | succ j =>
      rw [BT.set_succ]
      cases s with
      | zero => split <;> simp [BT.get_zero]
      | succ m =>
        split
        · rename_i hj
          rw [BT.get_succ, BT.get_succ, ihl]
          by_cases hm : m = j
          · subst hm; simp [hj]
          · rw [if_neg (by omega : ¬ m + 1 = j + 1)]
            split
            · rw [if_neg (by omega)]
            · rfl
        · rename_i hj
          rw [BT.get_succ, BT.get_succ, ihr]
          by_cases hm : m = j
          · subst hm; simp [hj]
          · rw [if_neg (by omega : ¬ m + 1 = j + 1)]
            split
            · rfl
            · rw [if_neg (by omega)]
end
end
end Am
namespace Am
open Go Go.RowKit
noncomputable section
abbrev ET := BT AV
abbrev HT := BT AO
def gE (e : ET) (t : Nat) : AV := e.get AV.undef t
def gH (h : HT) (i : Nat) : AO := h.get .dead i
def envT (e : ET) : Env := gE e
structure Sim (h : HT) (n : Nat) (H : AH) : Prop where
  len : H.length = n
  obj : ∀ i, i < n → H[i]? = some (gH h i)
  out : ∀ i, n ≤ i → gH h i = .dead
theorem Sim.at {h : HT} {n : Nat} {H : AH} (s : Sim h n H) {i : Nat} {o : AO} (ho : gH h i = o) (hl : o.live = true) : i < n ∧ H[i]? = some o := by
  by_cases hi : i < n
  · exact ⟨hi, by rw [s.obj i hi, ho]⟩
  · have := s.out i (by omega); rw [ho] at this; subst this; cases hl
theorem Sim.push {h : HT} {n : Nat} {H : AH} (s : Sim h n H) (o : AO) : Sim (h.set .dead n o) (n + 1) (H ++ [o]) := by
  refine ⟨by simp [s.len], fun i hi => ?_, fun i hi => ?_⟩
  · unfold gH
    rw [BT.get_set]
    by_cases h1 : i = n
    · subst h1; rw [if_pos rfl, List.getElem?_append_right (by rw [s.len]; exact Nat.le_refl _), s.len]; simp
    · rw [if_neg h1, List.getElem?_append_left (by rw [s.len]; omega)]
      exact s.obj i (by omega)
  · unfold gH
    rw [BT.get_set, if_neg (by omega)]
    exact s.out i (by omega)
theorem Sim.put {h : HT} {n : Nat} {H : AH} (s : Sim h n H) {i : Nat} (hi : i < n) (o : AO) : Sim (h.set .dead i o) n (H.set i o) := by
  refine ⟨by simp [s.len], fun j hj => ?_, fun j hj => ?_⟩
  · unfold gH
    rw [BT.get_set, List.getElem?_set]
    by_cases h1 : j = i
    · subst h1; simp [s.len, hi]
    · rw [if_neg h1, if_neg (Ne.symm h1)]
      exact s.obj j hj
  · unfold gH
    rw [BT.get_set, if_neg (by omega)]
    exact s.out j hj
theorem sim_nil : Sim .nil 0 [] := ⟨rfl, fun i h => by omega, fun i _ => rfl⟩
def listH (h : HT) (n : Nat) : AH := (List.range n).map (gH h)
theorem Sim.list {h : HT} {n : Nat} {H : AH} (s : Sim h n H) : listH h n = H := by
  apply List.ext_getElem?
  intro i
  unfold listH
  by_cases hi : i < n
  · rw [s.obj i hi]; simp [hi]
  · rw [List.getElem?_eq_none (by simp; omega), List.getElem?_eq_none (by rw [s.len]; omega)]
theorem envT_put (e : ET) (t : Nat) (v : AV) : (envT e).put (some t) v = envT (e.set AV.undef t v) := by
  funext s
  simp only [Env.put, Env.upd, envT, gE, BT.get_set]

/-! ### Values laid open -/
universe u
section
variable {β : Type u}
/-- The head alone. -/
def hd (v : AV) (k : AV → β) : β := AV.casesOn (motive_1 := fun _ => β) v (fun b => k (.bool b)) (fun j n => k (.int j n)) (fun s => k (.str s)) (fun l o => k (.ptr l o)) (k .nilptr) (fun l o n c => k (.slice l o n c)) (k .nilslice) (fun i => k (.map i)) (k .nilmap)
  (fun f a c => k (.fn f a c)) (k .nilfn) (fun t v => k (.iface t v)) (k .niface) (fun cs => k (.agg cs)) (fun vs => k (.tuple vs)) (fun x => k (.raw x))
theorem hd_eq (v : AV) (k : AV → β) : hd v k = k v := by cases v <;> rfl
def isInt (v : AV) (k : IntKind → Int → β) (d : β) : β := AV.casesOn (motive_1 := fun _ => β) v (fun _ => d) (fun j n => k j n) (fun _ => d) (fun _ _ => d) d (fun _ _ _ _ => d) d (fun _ => d) d (fun _ _ _ => d) d (fun _ _ => d) d (fun _ => d) (fun _ => d) (fun _ => d)
def isBool (v : AV) (k : Bool → β) (d : β) : β := AV.casesOn (motive_1 := fun _ => β) v (fun b => k b) (fun _ _ => d) (fun _ => d) (fun _ _ => d) d (fun _ _ _ _ => d) d (fun _ => d) d (fun _ _ _ => d) d (fun _ _ => d) d (fun _ => d) (fun _ => d) (fun _ => d)
def isPtr (v : AV) (k : Loc → Nat → β) (d : β) : β := AV.casesOn (motive_1 := fun _ => β) v (fun _ => d) (fun _ _ => d) (fun _ => d) (fun l o => k l o) d (fun _ _ _ _ => d) d (fun _ => d) d (fun _ _ _ => d) d (fun _ _ => d) d (fun _ => d) (fun _ => d) (fun _ => d)
def isSlice (v : AV) (k : Loc → Nat → Nat → Cap → β) (kn : β) (d : β) : β := AV.casesOn (motive_1 := fun _ => β) v (fun _ => d) (fun _ _ => d) (fun _ => d) (fun _ _ => d) d (fun l o n c => k l o n c) kn (fun _ => d) d (fun _ _ _ => d) d (fun _ _ => d) d (fun _ => d) (fun _ => d) (fun _ => d)
def isAgg (v : AV) (k : List AV → β) (kt : List AV → β) (d : β) : β := AV.casesOn (motive_1 := fun _ => β) v (fun _ => d) (fun _ _ => d) (fun _ => d) (fun _ _ => d) d (fun _ _ _ _ => d) d (fun _ => d) d (fun _ _ _ => d) d (fun _ _ => d) d (fun cs => k cs) (fun vs => kt vs) (fun _ => d)
def isStr (v : AV) (k : List UInt8 → β) (d : β) : β := AV.casesOn (motive_1 := fun _ => β) v (fun _ => d) (fun _ _ => d) (fun s => k s) (fun _ _ => d) d (fun _ _ _ _ => d) d (fun _ => d) d (fun _ _ _ => d) d (fun _ _ => d) d (fun _ => d) (fun _ => d) (fun _ => d)
def isMu (l : Loc) (k : Nat → β) (kr : Nat → β) : β := Loc.casesOn (motive := fun _ => β) l kr k
end
theorem isInt_ok {v : AV} {k : IntKind → Int → Bool} (h : isInt v k false = true) : ∃ j n, v = .int j n ∧ k j n = true := by
  cases v <;> first | exact ⟨_, _, rfl, h⟩ | cases h
theorem isBool_ok {v : AV} {k : Bool → Bool} (h : isBool v k false = true) : ∃ b, v = .bool b ∧ k b = true := by
  cases v <;> first | exact ⟨_, rfl, h⟩ | cases h
theorem isPtr_ok {v : AV} {k : Loc → Nat → Bool} (h : isPtr v k false = true) : ∃ l o, v = .ptr l o ∧ k l o = true := by
  cases v <;> first | exact ⟨_, _, rfl, h⟩ | cases h
theorem isSlice_ok {v : AV} {k : Loc → Nat → Nat → Cap → Bool} {kn : Bool} (h : isSlice v k kn false = true) : (∃ l o n c, v = .slice l o n c ∧ k l o n c = true) ∨ (v = .nilslice ∧ kn = true) := by
  cases v <;> first | exact .inl ⟨_, _, _, _, rfl, h⟩ | exact .inr ⟨rfl, h⟩ | cases h
theorem isAgg_ok {v : AV} {k kt : List AV → Bool} (h : isAgg v k kt false = true) : (∃ cs, v = .agg cs ∧ k cs = true) ∨ (∃ cs, v = .tuple cs ∧ kt cs = true) := by
  cases v <;> first | exact .inl ⟨_, rfl, h⟩ | exact .inr ⟨_, rfl, h⟩ | cases h
theorem isStr_ok {v : AV} {k : List UInt8 → Bool} (h : isStr v k false = true) : ∃ s, v = .str s ∧ k s = true := by
  cases v <;> first | exact ⟨_, rfl, h⟩ | cases h

/-! ### Whole numbers -/
def mx (k : IntKind) : Nat := IntKind.casesOn (motive := fun _ => Nat) k 127 32767 2147483647 9223372036854775807 255 65535 4294967295 18446744073709551615
def neg? (k : IntKind) : Bool := IntKind.casesOn (motive := fun _ => Bool) k true true true true false false false false
section
variable {β : Type u}
def wrF (k : IntKind) (z : Int) (q : Int → β) : β := Int.casesOn (motive := fun _ => β) z
  (fun m => fN m fun m => Bool.casesOn (motive := fun _ => β) (Nat.ble m (mx k)) (fI (k.wrap (.ofNat m)) q) (q (.ofNat m)))
  (fun m => fN m fun m => Bool.casesOn (motive := fun _ => β) (neg? k && Nat.ble m (mx k)) (fI (k.wrap (.negSucc m)) q) (q (.negSucc m)))
theorem wrap_small (k : IntKind) (z : Int) (h1 : z ≤ mx k) (h2 : if neg? k then - (mx k : Int) - 1 ≤ z else 0 ≤ z) : k.wrap z = z := by
  have p8 : (2 : Int) ^ 8 = 256 := rfl
  have p16 : (2 : Int) ^ 16 = 65536 := rfl
  have p32 : (2 : Int) ^ 32 = 4294967296 := rfl
  have p64 : (2 : Int) ^ 64 = 18446744073709551616 := rfl
  have q8 : (2 : Int) ^ (8 - 1) = 128 := rfl
  have q16 : (2 : Int) ^ (16 - 1) = 32768 := rfl
  have q32 : (2 : Int) ^ (32 - 1) = 2147483648 := rfl
  have q64 : (2 : Int) ^ (64 - 1) = 9223372036854775808 := rfl
  cases k <;> simp only [mx, neg?, if_true, Bool.false_eq_true, if_false] at h1 h2 <;>
    simp only [IntKind.wrap, IntKind.bits, IntKind.signed, p8, p16, p32, p64, q8, q16, q32, q64, Bool.true_and, Bool.false_and, Bool.false_eq_true, if_false, decide_eq_true_eq] <;>
    first
    | omega
    | (split <;> omega)
theorem wrF_eq (k : IntKind) (z : Int) (q : Int → β) : wrF k z q = q (k.wrap z) := by
  cases z with
  | ofNat m =>
    show fN m (fun m => Bool.casesOn (motive := fun _ => β) (Nat.ble m (mx k)) (fI (k.wrap (.ofNat m)) q) (q (.ofNat m))) = _
    rw [fN_eq]
    cases hb : Nat.ble m (mx k)
    · exact fI_eq _ _
    · have hm := Nat.le_of_ble_eq_true hb
      show q (.ofNat m) = _
      congr 1
      refine (wrap_small k _ ?_ ?_).symm
      · exact Int.ofNat_le.2 hm
      · split <;> simp <;> omega
  | negSucc m =>
    show fN m (fun m => Bool.casesOn (motive := fun _ => β) (neg? k && Nat.ble m (mx k)) (fI (k.wrap (.negSucc m)) q) (q (.negSucc m))) = _
    rw [fN_eq]
    cases hb : (neg? k && Nat.ble m (mx k))
    · exact fI_eq _ _
    · simp only [Bool.and_eq_true] at hb
      have hm := Nat.le_of_ble_eq_true hb.2
      have hn := hb.1
      show q (.negSucc m) = _
      congr 1
      refine (wrap_small k _ ?_ ?_).symm
      · rw [Int.negSucc_eq]; omega
      · rw [if_pos hn, Int.negSucc_eq]; omega
def addF (a b : Int) (q : Int → β) : β := Int.casesOn (motive := fun _ => β) a
  (fun m => Int.casesOn (motive := fun _ => β) b (fun n => q (.ofNat (Nat.add m n))) (fun n => fI (.ofNat m + .negSucc n) q)) (fun m => fI (.negSucc m + b) q)
theorem addF_eq (a b : Int) (q : Int → β) : addF a b q = q (a + b) := by
  cases a with
  | ofNat m => cases b with
    | ofNat n => rfl
    | negSucc n => exact fI_eq _ _
  | negSucc m => exact fI_eq _ _
def subF (a b : Int) (q : Int → β) : β := Int.casesOn (motive := fun _ => β) a
  (fun m => Int.casesOn (motive := fun _ => β) b (fun n => Bool.casesOn (motive := fun _ => β) (Nat.ble n m) (fI (.ofNat m - .ofNat n) q) (q (.ofNat (Nat.sub m n)))) (fun n => fI (.ofNat m - .negSucc n) q)) (fun m => fI (.negSucc m - b) q)
theorem subF_eq (a b : Int) (q : Int → β) : subF a b q = q (a - b) := by
  cases a with
  | ofNat m => cases b with
    | ofNat n =>
      show Bool.casesOn (motive := fun _ => β) (Nat.ble n m) (fI (.ofNat m - .ofNat n) q) (q (.ofNat (Nat.sub m n))) = _
      cases hb : Nat.ble n m
      · exact fI_eq _ _
      · have := Nat.le_of_ble_eq_true hb
        show q (.ofNat (m - n)) = _
        congr 1
        simp; omega
    | negSucc n => show fI (.ofNat m - .negSucc n) q = _; exact fI_eq _ _
  | negSucc m => show fI (.negSucc m - b) q = _; exact fI_eq _ _
def mulF (a b : Int) (q : Int → β) : β := Int.casesOn (motive := fun _ => β) a
  (fun m => Int.casesOn (motive := fun _ => β) b (fun n => q (.ofNat (Nat.mul m n))) (fun n => fI (.ofNat m * .negSucc n) q)) (fun m => fI (.negSucc m * b) q)
theorem mulF_eq (a b : Int) (q : Int → β) : mulF a b q = q (a * b) := by
  cases a with
  | ofNat m => cases b with
    | ofNat n => rfl
    | negSucc n => exact fI_eq _ _
  | negSucc m => exact fI_eq _ _
/-- a < b -/
def ltF (a b : Int) : Bool := Int.casesOn (motive := fun _ => Bool) a
  (fun m => Int.casesOn (motive := fun _ => Bool) b (fun n => Nat.ble (Nat.succ m) n) (fun _ => false))
  (fun m => Int.casesOn (motive := fun _ => Bool) b (fun _ => true) (fun n => Nat.ble (Nat.succ n) m))
theorem ltF_eq (a b : Int) : ltF a b = decide (a < b) := by
  rw [Bool.eq_iff_iff]
  cases a with
  | ofNat m => cases b with
    | ofNat n =>
      show Nat.ble (m + 1) n = true ↔ _
      rw [Nat.ble_eq]; simp; omega
    | negSucc n => show false = true ↔ _; simp [Int.negSucc_eq]; omega
  | negSucc m => cases b with
    | ofNat n => show true = true ↔ _; simp [Int.negSucc_eq]; omega
    | negSucc n =>
      show Nat.ble (n + 1) m = true ↔ _
      rw [Nat.ble_eq]; simp [Int.negSucc_eq]; omega
def eqF (a b : Int) : Bool := Int.casesOn (motive := fun _ => Bool) a
  (fun m => Int.casesOn (motive := fun _ => Bool) b (fun n => Nat.beq m n) (fun _ => false))
  (fun m => Int.casesOn (motive := fun _ => Bool) b (fun _ => false) (fun n => Nat.beq m n))
theorem eqF_eq (a b : Int) : eqF a b = (a == b) := by
  rw [Bool.eq_iff_iff]
  cases a with
  | ofNat m => cases b with
    | ofNat n => show Nat.beq m n = true ↔ _; rw [Nat.beq_eq]; simp; omega
    | negSucc n => show false = true ↔ _; simp
  | negSucc m => cases b with
    | ofNat n => show false = true ↔ _; simp
    | negSucc n => show Nat.beq m n = true ↔ _; rw [Nat.beq_eq]; simp
end

/-! ### Lists -/
def nthK (c : List AV) : Nat → (AV → Bool) → Bool := List.rec (motive := fun _ => Nat → (AV → Bool) → Bool) (fun _ _ => false) (fun x _ ih i k => Nat.casesOn (motive := fun _ => Bool) i (hd x k) fun j => ih j k) c
theorem nthK_ok : ∀ {c : List AV} {i : Nat} {k : AV → Bool}, nthK c i k = true → ∃ v, c[i]? = some v ∧ k v = true
  | [], i, k, h => by cases h
  | x :: xs, 0, k, h => ⟨x, rfl, by have h : hd x k = true := h; rwa [hd_eq] at h⟩
  | x :: xs, i + 1, k, h => by
    obtain ⟨v, h1, h2⟩ := nthK_ok (c := xs) (i := i) (k := k) h
    exact ⟨v, by simpa using h1, h2⟩
def takeK (c : List AV) : Nat → (List AV → Bool) → Bool := List.rec (motive := fun _ => Nat → (List AV → Bool) → Bool) (fun m k => Nat.casesOn (motive := fun _ => Bool) m (k []) fun _ => false)
  (fun x _ ih m k => Nat.casesOn (motive := fun _ => Bool) m (k []) fun m => ih m fun l => k (x :: l)) c
theorem takeK_ok : ∀ {c : List AV} {m : Nat} {k : List AV → Bool}, takeK c m k = true → m ≤ c.length ∧ k (c.take m) = true
  | [], 0, k, h => ⟨Nat.le_refl _, h⟩
  | [], m + 1, k, h => by cases h
  | x :: xs, 0, k, h => ⟨Nat.zero_le _, h⟩
  | x :: xs, m + 1, k, h => by
    obtain ⟨h1, h2⟩ := takeK_ok (c := xs) (m := m) (k := fun l => k (x :: l)) h
    exact ⟨by simp; omega, by simpa using h2⟩
def dropK (c : List AV) : Nat → (List AV → Bool) → Bool := List.rec (motive := fun _ => Nat → (List AV → Bool) → Bool) (fun m k => Nat.casesOn (motive := fun _ => Bool) m (k []) fun _ => false)
  (fun x xs ih m k => Nat.casesOn (motive := fun _ => Bool) m (k (x :: xs)) fun m => ih m k) c
theorem dropK_ok : ∀ {c : List AV} {m : Nat} {k : List AV → Bool}, dropK c m k = true → m ≤ c.length ∧ k (c.drop m) = true
  | [], 0, k, h => ⟨Nat.le_refl _, h⟩
  | [], m + 1, k, h => by cases h
  | x :: xs, 0, k, h => ⟨Nat.zero_le _, h⟩
  | x :: xs, m + 1, k, h => by
    obtain ⟨h1, h2⟩ := dropK_ok (c := xs) (m := m) (k := k) h
    exact ⟨by simp; omega, by simpa using h2⟩
def overK (vs : List AV) : List AV → (List AV → Bool) → Bool := List.rec (motive := fun _ => List AV → (List AV → Bool) → Bool) (fun c k => k c)
  (fun v _ ih c k => List.casesOn (motive := fun _ => Bool) c false fun _ cs => ih cs fun r => k (v :: r)) vs
theorem overK_ok : ∀ {vs c : List AV} {k : List AV → Bool}, overK vs c k = true → vs.length ≤ c.length ∧ k (vs ++ c.drop vs.length) = true
  | [], c, k, h => ⟨Nat.zero_le _, h⟩
  | v :: vs, [], k, h => by cases h
  | v :: vs, x :: xs, k, h => by
    obtain ⟨h1, h2⟩ := overK_ok (vs := vs) (c := xs) (k := fun r => k (v :: r)) h
    exact ⟨by simp; omega, by simpa using h2⟩
def spliceK (vs : List AV) (c : List AV) : Nat → (List AV → Bool) → Bool := List.rec (motive := fun _ => Nat → (List AV → Bool) → Bool) (fun m k => Nat.casesOn (motive := fun _ => Bool) m (overK vs [] k) fun _ => false)
  (fun x xs ih m k => Nat.casesOn (motive := fun _ => Bool) m (overK vs (x :: xs) k) fun m => ih m fun r => k (x :: r)) c
theorem spliceK_ok : ∀ {vs c : List AV} {m : Nat} {k : List AV → Bool}, spliceK vs c m k = true → m + vs.length ≤ c.length ∧ k (splice c m vs) = true
  | vs, [], 0, k, h => by
    obtain ⟨h1, h2⟩ := overK_ok (vs := vs) (c := []) (k := k) h
    exact ⟨by simpa using h1, by simpa [splice] using h2⟩
  | vs, [], m + 1, k, h => by cases h
  | vs, x :: xs, 0, k, h => by
    obtain ⟨h1, h2⟩ := overK_ok (vs := vs) (c := x :: xs) (k := k) h
    exact ⟨by simpa using h1, by simpa [splice] using h2⟩
  | vs, x :: xs, m + 1, k, h => by
    obtain ⟨h1, h2⟩ := spliceK_ok (vs := vs) (c := xs) (m := m) (k := fun r => k (x :: r)) h
    refine ⟨by simp; omega, ?_⟩
    have : splice (x :: xs) (m + 1) vs = x :: splice xs m vs := by
      simp only [splice, List.take_succ_cons, List.cons_append]
      congr 2
      rw [show m + 1 + vs.length = m + vs.length + 1 from by omega, List.drop_succ_cons]
    rw [this]; exact h2
def appK (a b : List AV) : (List AV → Bool) → Bool := List.rec (motive := fun _ => (List AV → Bool) → Bool) (fun k => k b) (fun x _ ih k => ih fun r => k (x :: r)) a
theorem appK_eq : ∀ (a b : List AV) (k : List AV → Bool), appK a b k = k (a ++ b)
  | [], b, k => rfl
  | x :: xs, b, k => by show appK xs b (fun r => k (x :: r)) = _; rw [appK_eq]; rfl
def one1 (v : AV) : Bool := AV.casesOn (motive_1 := fun _ => Bool) v (fun _ => true) (fun _ _ => true) (fun _ => true) (fun _ _ => true) true (fun _ _ _ _ => true) true (fun _ => true) true (fun _ _ _ => true) true (fun _ _ => true) true (fun _ => false) (fun _ => false) (fun _ => true)
theorem one1_eq (v : AV) : one1 v = v.oneCell := by cases v <;> rfl
def ones (c : List AV) : Bool := List.rec (motive := fun _ => Bool) true (fun x _ ih => Bool.casesOn (motive := fun _ => Bool) (one1 x) false ih) c
theorem ones_eq : ∀ (c : List AV), ones c = c.all AV.oneCell
  | [] => rfl
  | x :: xs => by
    show Bool.casesOn (motive := fun _ => Bool) (one1 x) false (ones xs) = _
    rw [one1_eq, ones_eq xs, List.all_cons]
    cases x.oneCell <;> rfl
def lenK (c : List AV) : Nat := List.rec (motive := fun _ => Nat) 0 (fun _ _ ih => Nat.succ ih) c
theorem lenK_eq : ∀ (c : List AV), lenK c = c.length
  | [] => rfl
  | x :: xs => by show Nat.succ (lenK xs) = _; rw [lenK_eq]; rfl
/-- The cells of a value. -/
def cellsK (v : AV) (k : List AV → Bool) : Bool := isAgg v k (fun vs => k [.tuple vs]) (hd v fun v => k [v])
theorem cellsK_eq (v : AV) (k : List AV → Bool) : cellsK v k = k v.cells := by cases v <;> rfl
/-- An object's content, and what it becomes. -/
def withK (o : AO) (k : List AV → (List AV → AO) → Bool) : Bool := AO.casesOn (motive := fun _ => Bool) o (fun c t => k c fun c => .cells c t) (fun c t sz => k c fun c => .row c t sz) (fun _ _ => false) (fun _ _ => false) (fun _ _ _ _ => false) false
theorem withK_ok {o : AO} {k : List AV → (List AV → AO) → Bool} (h : withK o k = true) : ∃ c, o.content = some c ∧ o.live = true ∧ k c o.withContent = true := by
  cases o <;> first | exact ⟨_, rfl, rfl, h⟩ | cases h
end
end Am
namespace Am
open Go Go.RowKit
noncomputable section
universe u
def chk (b x : Bool) : Bool := Bool.casesOn (motive := fun _ => Bool) b false x
theorem chk_ok {b x : Bool} (h : chk b x = true) : b = true ∧ x = true := by cases b <;> first | exact ⟨rfl, h⟩ | cases h
def ohd {β : Type u} (o : AO) (k : AO → β) : β := AO.casesOn (motive := fun _ => β) o (fun c t => k (.cells c t)) (fun c t sz => k (.row c t sz)) (fun es n => k (.map es n)) (fun s n => k (.siter s n)) (fun b x es vs => k (.obj b x es vs)) (k .dead)
theorem ohd_eq {β : Type u} (o : AO) (k : AO → β) : ohd o k = k o := by cases o <;> rfl
def kn (k : IntKind) : Nat := IntKind.casesOn (motive := fun _ => Nat) k 0 1 2 3 4 5 6 7
def kq (a b : IntKind) : Bool := Nat.beq (kn a) (kn b)
theorem kq_ok {a b : IntKind} (h : kq a b = true) : a = b := by
  have := Nat.eq_of_beq_eq_true h
  cases a <;> cases b <;> first | rfl | (simp [kn] at this)
def xF (e : ET) (x : X) : AV := X.casesOn (motive := fun _ => AV) x (fun t => gE e t) (fun v => v)
theorem xF_eq (e : ET) (x : X) : x.ev (envT e) = xF e x := by cases x <;> rfl
def pushF (h : HT) (n : Nat) (o : AO) (k : HT → Nat → Bool) : Bool := BT.setK .dead h n o fun h => fN (Nat.succ n) fun n => k h n
theorem pushF_eq (h : HT) (n : Nat) (o : AO) (k : HT → Nat → Bool) : pushF h n o k = k (h.set .dead n o) (n + 1) := by
  unfold pushF; rw [BT.setK_eq, fN_eq]
def putF (h : HT) (i : Nat) (o : AO) (k : HT → Bool) : Bool := ohd o fun o => BT.setK .dead h i o k
theorem putF_eq (h : HT) (i : Nat) (o : AO) (k : HT → Bool) : putF h i o k = k (h.set .dead i o) := by
  unfold putF; rw [ohd_eq, BT.setK_eq]
def idxK (j : Int) (ln : Nat) (k : Nat → Bool) : Bool := Int.casesOn (motive := fun _ => Bool) j (fun j => chk (Nat.ble (Nat.succ j) ln) (k j)) (fun _ => false)
theorem idxK_ok {j : Int} {ln : Nat} {k : Nat → Bool} (h : idxK j ln k = true) : 0 ≤ j ∧ j < ln ∧ k j.toNat = true := by
  cases j with
  | ofNat j =>
    obtain ⟨h1, h2⟩ := chk_ok (show chk (Nat.ble (Nat.succ j) ln) (k j) = true from h)
    have := Nat.le_of_ble_eq_true h1
    exact ⟨by simp, by simp; omega, h2⟩
  | negSucc j => cases h

/-- A text's length, counted from the front. -/
def lenT (s : List UInt8) : Nat → (Nat → Bool) → Bool := List.rec (motive := fun _ => Nat → (Nat → Bool) → Bool) (fun n k => k n) (fun _ _ ih n k => fN (Nat.succ n) fun n => ih n k) s
theorem lenT_add : ∀ (s : List UInt8) (n : Nat) (k : Nat → Bool), lenT s n k = k (n + s.length)
  | [], n, k => rfl
  | c :: s, n, k => by
    show fN (Nat.succ n) (fun n => lenT s n k) = _
    rw [fN_eq, lenT_add]
    congr 1
    simp only [List.length_cons]; omega
theorem lenT_eq (s : List UInt8) (k : Nat → Bool) : lenT s 0 k = k s.length := by rw [lenT_add, Nat.zero_add]
section
variable (P : Program) (R : Ro) (e : ET) (h : HT) (n : Nat) (k : AV → HT → Nat → Bool)
def slowQ (op : AOp) : Bool := match op.eval P R (envT e) (listH h n) with
  | some (v, _) => fAV v fun v => k v h n
  | none => false
def ofL (H : AH) : HT → Nat → (HT → Nat → Bool) → Bool := List.rec (motive := fun _ => HT → Nat → (HT → Nat → Bool) → Bool) (fun h n k => k h n) (fun o _ ih h n k => fO o fun o => pushF h n o fun h n => ih h n k) H
def slowE (op : AOp) : Bool := match op.eval P R (envT e) (listH h n) with
  | some (v, H') => fAV v fun v => ofL H' .nil 0 fun h n => k v h n
  | none => false
def loadF (m : Option Nat) (x : X) : Bool := isPtr (xF e x) (fun l o => isMu l
  (fun i => withK (gH h i) fun c _ => Option.casesOn (motive := fun _ => Bool) m (nthK c o fun v => k v h n) (fun m => dropK c o fun d => takeK d m fun d => k (.agg d) h n))
  (fun b => Option.casesOn (motive := fun _ => Bool) m (Option.casesOn (motive := fun _ => Bool) (R b o) false fun v => hd v fun v => k v h n) (fun m => slowQ P R e h n k (.load (some m) x)))) false
def storeF (m : Nat) (x v : X) : Bool := isPtr (xF e x) (fun l o => isMu l
  (fun i => cellsK (xF e v) fun vs => chk (Nat.beq (lenK vs) m) (chk (ones vs) (withK (gH h i) fun c r => spliceK vs c o fun c => putF h i (r c) fun h => k AV.undef h n)))
  (fun _ => false)) false
def intF (op : BinOp) (x y : X) (a : IntKind) (i : Int) (b : IntKind) (j : Int) : Bool := match op with
  | .add => chk (kq a b) (addF i j fun z => wrF a z fun z => k (.int a z) h n)
  | .sub => chk (kq a b) (subF i j fun z => wrF a z fun z => k (.int a z) h n)
  | .mul => chk (kq a b) (mulF i j fun z => wrF a z fun z => k (.int a z) h n)
  | .eql => chk (kq a b) (fB (eqF i j) fun t => k (.bool t) h n)
  | .neq => chk (kq a b) (fB (!(eqF i j)) fun t => k (.bool t) h n)
  | .lss => chk (kq a b) (fB (ltF i j) fun t => k (.bool t) h n)
  | .gtr => chk (kq a b) (fB (ltF j i) fun t => k (.bool t) h n)
  | .leq => chk (kq a b) (fB (!(ltF j i)) fun t => k (.bool t) h n)
  | .geq => chk (kq a b) (fB (!(ltF i j)) fun t => k (.bool t) h n)
  | op => slowQ P R e h n k (.bin op x y)
def binF (op : BinOp) (x y : X) : Bool := isInt (xF e x) (fun a i => isInt (xF e y) (fun b j => intF P R e h n k op x y a i b j) false) (slowQ P R e h n k (.bin op x y))
/-- What is appended. -/
def srcK (sz : Nat) (x : X) (q : List AV → Nat → Bool) : Bool := isSlice (xF e x) (fun l o m _ => isMu l (fun i => withK (gH h i) fun c _ => dropK c o fun d => fN (Nat.mul m sz) fun z => takeK d z fun d => q d m)
  (fun _ => match srcEv R [] sz (xF e x) with | some (d, m) => fAVL d fun d => q d m | none => false)) (q [] 0) (match srcEv R [] sz (xF e x) with | some (d, m) => fAVL d fun d => fN m fun m => q d m | none => false)
def appendF (t sz by' : Nat) (s x : X) : Bool := srcK R e h sz x fun new m => chk (ones new) (chk (Nat.ble 1 sz) (chk (Nat.ble 1 by')
  (isSlice (xF e s) (fun l off len cap => fN (Nat.add len m) fun need => chk (Nat.ble (Nat.mul need by') 140737488355328) (isMu l (fun i => Cap.casesOn (motive := fun _ => Bool) cap
      (fun c => Bool.casesOn (motive := fun _ => Bool) (Nat.ble need c)
        (withK (gH h i) fun cc _ => dropK cc off fun d => fN (Nat.mul len sz) fun z => takeK d z fun old => appK old new fun r => pushF h n (.row r t sz) fun h' n' => k (.slice (.mu n) 0 need (.opn 0)) h' n')
        (Nat.casesOn (motive := fun _ => Bool) m (k (.slice l off need (.known c)) h n) fun _ => withK (gH h i) fun cc r => fN (Nat.add off (Nat.mul len sz)) fun z => spliceK new cc z fun cc => putF h i (r cc) fun h => k (.slice l off need (.known c)) h n))
      (fun eo => AO.casesOn (motive := fun _ => Bool) (gH h i) (fun _ _ => false)
        (fun c t' sz' => chk (Nat.beq t' t) (chk (Nat.beq sz' sz) (chk (Nat.beq off (Nat.mul eo sz)) (fN (Nat.mul len sz) fun z => dropK c off fun d => takeK d z fun old =>
          Bool.casesOn (motive := fun _ => Bool) (Nat.ble (Nat.add off (Nat.mul need sz)) (lenK c))
            (appK old new fun r => putF h i .dead fun h => pushF h n (.row r t sz) fun h' n' => k (.slice (.mu n) 0 need (.opn 0)) h' n')
            (fN (Nat.add off z) fun z => spliceK new c z fun cc => putF h i (.row cc t' sz') fun h => k (.slice l off need (.opn eo)) h n)))))
        (fun _ _ => false) (fun _ _ => false) (fun _ _ _ _ => false) false))
      (fun _ => slowE P R e h n k (.append t sz by' s x))))
    (Nat.casesOn (motive := fun _ => Bool) m (k .nilslice h n) fun _ => chk (Nat.ble (Nat.mul m by') 140737488355328) (pushF h n (.row new t sz) fun h' n' => k (.slice (.mu n) 0 m (.opn 0)) h' n'))
    false)))
def sliceF (sz : Nat) (x : X) (lo hi mx : Option X) : Bool := isSlice (xF e x)
  (fun l off len cap => Cap.casesOn (motive := fun _ => Bool) cap
    (fun _ => match sliceEv [] sz (xF e x) (lo.map (xF e)) (hi.map (xF e)) (mx.map (xF e)) with | some (v, _) => fAV v fun v => k v h n | none => false)
    (fun eo => isMu l (fun i => AO.casesOn (motive := fun _ => Bool) (gH h i) (fun _ _ => false)
      (fun c t sz' => match sliceEv [.row c t sz'] sz (.slice (.mu 0) off len (.opn eo)) (lo.map (xF e)) (hi.map (xF e)) (mx.map (xF e)) with
        | some (.slice (.mu 0) o m cp, _) => fN o fun o => fN m fun m => fCap cp fun cp => k (.slice (.mu i) o m cp) h n
        | some (.slice (.mu 1) _ _ _, _) => pushF h n .dead fun h' n' => k (.slice (.mu n) 0 0 (.opn 0)) h' n'
        | some _ => slowE P R e h n k (.slice sz x lo hi mx)
        | none => false)
      (fun _ _ => false) (fun _ _ => false) (fun _ _ _ _ => false) false) (fun _ => false)))
  (slowE P R e h n k (.slice sz x lo hi mx)) false
def siterK (o : AO) (q : List UInt8 → Nat → Bool) : Bool := AO.casesOn (motive := fun _ => Bool) o (fun _ _ => false) (fun _ _ _ => false) (fun _ _ => false) (fun s p => q s p) (fun _ _ _ _ => false) false
def nextF (x : X) : Bool := isPtr (xF e x) (fun l o => isMu l (fun i => Nat.casesOn (motive := fun _ => Bool) o (siterK (gH h i) fun s pos => lenT s 0 fun m => Bool.casesOn (motive := fun _ => Bool) (Nat.ble (Nat.succ pos) m)
    (k (.tuple [.bool false]) h n)
    (fI (Utf8.decode ⟨⟨s⟩⟩ pos).1 fun r => fN (pos + (Utf8.decode ⟨⟨s⟩⟩ pos).2) fun p => putF h i (.siter s p) fun h => k (.tuple [.bool true, .int .i64 (.ofNat pos), .int .i32 r]) h n))
  (fun _ => false)) (fun _ => false)) false
def bsliceF (t sz ln : Nat) (z : List AV) (ps : List (Nat × X)) : Bool := match fillA ((List.range ln).map fun i => (i * sz, sz)) (zerosEv z ln) (ps.map fun p => (p.1, xF e p.2)) with
  | some c => chk (Nat.beq (lenK z) sz) (fAVL c fun c => chk (ones c) (pushF h n (.cells c t) fun h' n' => k (.slice (.mu n) 0 ln (.known ln)) h' n'))
  | none => false
def makeF (t sz by' : Nat) (z : List AV) (l c : X) : Bool := isInt (xF e l) (fun _ l => isInt (xF e c) (fun _ c => idxK l (Nat.succ c.toNat) fun l => chk (decide (0 ≤ c ∧ by' * c ≤ 281474976710656 ∧ c ≤ 9223372036854775807)) (chk (Nat.beq (lenK z) sz) (chk (ones z)
    (fN c.toNat fun c => fAVL (zerosEv z c) fun cs => pushF h n (.cells cs t) fun h' n' => k (.slice (.mu n) 0 l (.known c)) h' n')))) false) false
def opF (op : AOp) : Bool := match op with
  | .mv x => hd (xF e x) fun v => k v h n
  | .pick c a b => isBool (xF e c) (fun t => Bool.casesOn (motive := fun _ => Bool) t (hd (xF e b) fun v => k v h n) (hd (xF e a) fun v => k v h n)) false
  | .load m x => loadF P R e h n k m x
  | .store m x v => storeF e h n k m x v
  | .bin op x y => binF P R e h n k op x y
  | .ext x i => isAgg (xF e x) (fun _ => false) (fun vs => nthK vs i fun v => k v h n) false
  | .fld off m x => isAgg (xF e x) (fun cs => Option.casesOn (motive := fun _ => Bool) m (nthK cs off fun v => k v h n) (fun m => dropK cs off fun l => takeK l m fun l => k (.agg l) h n)) (fun _ => false) false
  | .addr d x => isPtr (xF e x) (fun l o => fN (Nat.add o d) fun o => k (.ptr l o) h n) false
  | .iaddrS sz x i => isSlice (xF e x) (fun l o ln _ => isInt (xF e i) (fun _ j => idxK j ln fun j => fN (Nat.add o (Nat.mul j sz)) fun o => k (.ptr l o) h n) false) false false
  | .iaddrA ln sz x i => isPtr (xF e x) (fun l o => isInt (xF e i) (fun _ j => idxK j ln fun j => fN (Nat.add o (Nat.mul j sz)) fun o => k (.ptr l o) h n) false) false
  | .lenL x => isSlice (xF e x) (fun _ _ m _ => k (.int .i64 (.ofNat m)) h n) (k (.int .i64 (.ofNat 0)) h n) false
  | .alloc t z => chk (ones z) (pushF h n (.cells z t) fun h' n' => k (.ptr (.mu n) 0) h' n')
  | .box t x => cellsK (xF e x) fun c => chk (ones c) (pushF h n (.cells c t) fun h' n' => k (.ptr (.mu n) 0) h' n')
  | .convI kk x => isInt (xF e x) (fun _ z => wrF kk z fun z => k (.int kk z) h n) false
  | .append t sz by' s x => appendF P R e h n k t sz by' s x
  | .slice sz x lo hi mx => sliceF P R e h n k sz x lo hi mx
  | .lenS x => isStr (xF e x) (fun s => lenT s 0 fun m => k (.int .i64 (.ofNat m)) h n) false
  | .rangeS x => isStr (xF e x) (fun s => pushF h n (.siter s 0) fun h' n' => k (.ptr (.mu n) 0) h' n') false
  | .nextS x => nextF e h n k x
  | .bslice t sz ln z ps => bsliceF e h n k t sz ln z ps
  | .mksl t sz by' z l c => makeF e h n k t sz by' z l c
  | .mkmap => pushF h n (.map [] 0) fun h' n' => k (.map n) h' n'
  | .call _ _ => false
  | .callv _ _ => false
  | .bad => false
  | op => match op.quiet with
    | true => slowQ P R e h n k op
    | false => slowE P R e h n k op
end

section
variable {P : Program} {R : Ro} {e : ET} {h : HT} {n : Nat} {k : AV → HT → Nat → Bool}
def Res (P : Program) (R : Ro) (e : ET) (k : AV → HT → Nat → Bool) (H : AH) (op : AOp) : Prop := ∃ v H' h' n', op.eval P R (envT e) H = some (v, H') ∧ Sim h' n' H' ∧ k v h' n' = true
theorem slowQ_ok {op : AOp} (hq : op.quiet = true) (hk : slowQ P R e h n k op = true) {H : AH} (s : Sim h n H) : Res P R e k H op := by
  unfold slowQ at hk
  rw [s.list] at hk
  split at hk
  · rename_i v H' hev
    have := quiet_same hq hev
    subst this
    rw [fAV_eq] at hk
    exact ⟨v, _, h, n, hev, s, hk⟩
  · cases hk
theorem ofL_ok : ∀ {H G : AH} {h : HT} {n : Nat} {k : HT → Nat → Bool}, Sim h n G → ofL H h n k = true → ∃ h' n', Sim h' n' (G ++ H) ∧ k h' n' = true
  | [], G, h, n, k, s, hk => ⟨h, n, by simpa using s, hk⟩
  | o :: H, G, h, n, k, s, hk => by
    have hk : fO o (fun o => pushF h n o fun h n => ofL H h n k) = true := hk
    rw [fO_eq, pushF_eq] at hk
    obtain ⟨h', n', h1, h2⟩ := ofL_ok (s.push o) hk
    exact ⟨h', n', by simpa using h1, h2⟩
theorem slowE_ok {op : AOp} (hk : slowE P R e h n k op = true) {H : AH} (s : Sim h n H) : Res P R e k H op := by
  unfold slowE at hk
  rw [s.list] at hk
  split at hk
  · rename_i v H' hev
    rw [fAV_eq] at hk
    obtain ⟨h', n', h1, h2⟩ := ofL_ok sim_nil hk
    exact ⟨v, _, h', n', hev, by simpa using h1, h2⟩
  · cases hk
theorem isMu_ok {l : Loc} {k kr : Nat → Bool} (h : isMu l k kr = true) : (∃ i, l = .mu i ∧ k i = true) ∨ (∃ b, l = .ro b ∧ kr b = true) := by
  cases l <;> first | exact .inl ⟨_, rfl, h⟩ | exact .inr ⟨_, rfl, h⟩
theorem loadF_ok {m : Option Nat} {x : X} (hk : loadF P R e h n k m x = true) {H : AH} (s : Sim h n H) : Res P R e k H (.load m x) := by
  obtain ⟨l, o, hx, hk⟩ := isPtr_ok hk
  rcases isMu_ok hk with ⟨i, hl0, hk1⟩ | ⟨b, hl0, hk1⟩
  · subst hl0
    have hk := hk1
    obtain ⟨c, hc, hl, hk⟩ := withK_ok hk
    obtain ⟨hi, hg⟩ := s.at rfl hl
    cases m with
    | none =>
      obtain ⟨v, hv, hk⟩ := nthK_ok hk
      exact ⟨v, H, h, n, by simp [AOp.eval, xF_eq, hx, read1, hg, hc, hv], s, hk⟩
    | some m =>
      obtain ⟨h1, hk⟩ := dropK_ok hk
      obtain ⟨h2, hk⟩ := takeK_ok hk
      refine ⟨_, H, h, n, ?_, s, hk⟩
      have h3 : o + m ≤ c.length := by simp at h2; omega
      simp [AOp.eval, xF_eq, hx, readN, hg, hc, h3]
  · subst hl0
    have hk := hk1
    cases m with
    | none =>
      have hk : (Option.casesOn (motive := fun _ => Bool) (R b o) false fun v => hd v fun v => k v h n) = true := hk
      cases hR : R b o with
      | none => rw [hR] at hk; cases hk
      | some v =>
        rw [hR] at hk
        have hk : hd v (fun v => k v h n) = true := hk
        rw [hd_eq] at hk
        exact ⟨v, H, h, n, by simp [AOp.eval, xF_eq, hx, read1, hR], s, hk⟩
    | some m => exact slowQ_ok rfl hk s
theorem storeF_ok {m : Nat} {x v : X} (hk : storeF e h n k m x v = true) {H : AH} (s : Sim h n H) : Res P R e k H (.store m x v) := by
  obtain ⟨l, o, hx, hk⟩ := isPtr_ok hk
  rcases isMu_ok hk with ⟨i, hl0, hk1⟩ | ⟨b, hl0, hk1⟩
  · subst hl0
    have hk := hk1
    rw [cellsK_eq] at hk
    obtain ⟨h1, hk⟩ := chk_ok hk
    have h1 := Nat.eq_of_beq_eq_true h1
    rw [lenK_eq] at h1
    obtain ⟨h2, hk⟩ := chk_ok hk
    rw [ones_eq] at h2
    obtain ⟨c, hc, hl, hk⟩ := withK_ok hk
    obtain ⟨hi, hg⟩ := s.at rfl hl
    obtain ⟨h3, hk⟩ := spliceK_ok hk
    rw [putF_eq] at hk
    refine ⟨AV.undef, _, _, n, ?_, s.put hi _, hk⟩
    simp [AOp.eval, xF_eq, hx, h1, writeN, hg, hc, h2]
    omega
  · subst hl0
    have hk := hk1
    cases hk
theorem intF_ok {op : BinOp} {x y : X} {a b : IntKind} {i j : Int} (hx : xF e x = .int a i) (hy : xF e y = .int b j) (hk : intF P R e h n k op x y a i b j = true) {H : AH} (s : Sim h n H) : Res P R e k H (.bin op x y) := by
  unfold intF at hk
  split at hk
  case h_10 => exact slowQ_ok rfl hk s
  all_goals
    obtain ⟨h1, hk2⟩ := chk_ok hk
    have h1 := kq_ok h1
    subst h1
    simp only [addF_eq, subF_eq, mulF_eq, wrF_eq, fB_eq, eqF_eq, ltF_eq] at hk2
    refine ⟨_, H, h, n, ?_, s, hk2⟩
    simp [AOp.eval, xF_eq, hx, hy, binEv, intBin, bne]
  all_goals
    rw [Bool.eq_iff_iff]; simp
theorem binF_ok {op : BinOp} {x y : X} (hk : binF P R e h n k op x y = true) {H : AH} (s : Sim h n H) : Res P R e k H (.bin op x y) := by
  unfold binF at hk
  cases hx : xF e x with
  | int a i =>
    rw [hx] at hk
    obtain ⟨b, j, hy, hk⟩ := isInt_ok (show isInt (xF e y) (fun b j => intF P R e h n k op x y a i b j) false = true from hk)
    exact intF_ok hx hy hk s
  | _ => rw [hx] at hk; exact slowQ_ok rfl hk s
theorem srcK_ok {sz : Nat} {x : X} {q : List AV → Nat → Bool} (hk : srcK R e h sz x q = true) {H : AH} (s : Sim h n H) : ∃ d m, srcEv R H sz (xF e x) = some (d, m) ∧ q d m = true := by
  unfold srcK at hk
  have key : ∀ v, v = xF e x → (∀ i o m c, v ≠ .slice (.mu i) o m c) → srcEv R H sz v = srcEv R [] sz v := by
    intro v _ hv
    cases v with
    | slice l o m c => cases l with
      | mu i => exact absurd rfl (hv i o m c)
      | ro b => rfl
    | _ => rfl
  cases hx : xF e x with
  | slice l o m c =>
    rw [hx] at hk
    cases l with
    | mu i =>
      have hk0 : withK (gH h i) (fun c _ => dropK c o fun d => fN (Nat.mul m sz) fun z => takeK d z fun d => q d m) = true := hk
      obtain ⟨c', hc, hl, hk⟩ := withK_ok hk0
      obtain ⟨hi, hg⟩ := s.at rfl hl
      obtain ⟨h1, hk⟩ := dropK_ok hk
      rw [fN_eq] at hk
      obtain ⟨h2, hk⟩ := takeK_ok hk
      refine ⟨_, _, ?_, hk⟩
      have h3 : o + m * sz ≤ c'.length := by simp at h2; omega
      simp [srcEv, readN, hg, hc, h3]
    | ro b =>
      have hk : (match srcEv R [] sz (.slice (.ro b) o m c) with | some (d, m) => fAVL d fun d => q d m | none => false) = true := hk
      split at hk
      · rename_i d m' hd
        rw [fAVL_eq] at hk
        exact ⟨d, m', by rw [← hd]; exact key _ hx.symm (fun _ _ _ _ h => by cases h), hk⟩
      · cases hk
  | nilslice => rw [hx] at hk; exact ⟨[], 0, rfl, hk⟩
  | _ =>
    rw [hx] at hk
    simp only [isSlice] at hk
    split at hk
    · rename_i d m' hd
      rw [fAVL_eq, fN_eq] at hk
      exact ⟨d, m', by rw [← hd]; exact key _ hx.symm (fun _ _ _ _ h => by cases h), hk⟩
    · cases hk
theorem appendF_ok {t sz by' : Nat} {s' x : X} (hk : appendF P R e h n k t sz by' s' x = true) {H : AH} (s : Sim h n H) : Res P R e k H (.append t sz by' s' x) := by
  obtain ⟨new, m, hsrc, hk⟩ := srcK_ok hk s
  obtain ⟨h1, hk⟩ := chk_ok hk
  rw [ones_eq] at h1
  obtain ⟨h2, hk⟩ := chk_ok hk
  have h2 : sz ≠ 0 := by have := Nat.le_of_ble_eq_true h2; omega
  obtain ⟨h3, hk⟩ := chk_ok hk
  have h3 : by' ≠ 0 := by have := Nat.le_of_ble_eq_true h3; omega
  rcases isSlice_ok hk with ⟨l, off, len, cap, hx, hk⟩ | ⟨hx, hk⟩
  · rw [fN_eq] at hk
    obtain ⟨h4, hk⟩ := chk_ok hk
    have h4 : (len + m) * by' ≤ 140737488355328 := Nat.le_of_ble_eq_true h4
    rcases isMu_ok hk with ⟨i, hl0, hk1⟩ | ⟨b, hl0, hk1⟩
    · subst hl0
      have hk := hk1
      cases cap with
      | known c =>
        have hk : (Bool.casesOn (motive := fun _ => Bool) (Nat.ble (len + m) c)
          (withK (gH h i) fun cc _ => dropK cc off fun d => fN (Nat.mul len sz) fun z => takeK d z fun old => appK old new fun r => pushF h n (.row r t sz) fun h' n' => k (.slice (.mu n) 0 (len + m) (.opn 0)) h' n')
          (Nat.casesOn (motive := fun _ => Bool) m (k (.slice (.mu i) off (len + m) (.known c)) h n) fun _ => withK (gH h i) fun cc r => fN (Nat.add off (Nat.mul len sz)) fun z => spliceK new cc z fun cc => putF h i (r cc) fun h => k (.slice (.mu i) off (len + m) (.known c)) h n)) = true := hk
        cases hb : Nat.ble (len + m) c with
        | false =>
          rw [hb] at hk
          have hb : ¬ len + m ≤ c := by intro h'; rw [Nat.ble_eq_true_of_le h'] at hb; cases hb
          obtain ⟨cc, hc, hl, hk⟩ := withK_ok hk
          obtain ⟨hi, hg⟩ := s.at rfl hl
          obtain ⟨h5, hk⟩ := dropK_ok hk
          rw [fN_eq] at hk
          obtain ⟨h6, hk⟩ := takeK_ok hk
          rw [appK_eq, pushF_eq] at hk
          refine ⟨_, _, _, _, ?_, s.push _, hk⟩
          have h7 : off + len * sz ≤ cc.length := by simp at h6; omega
          simp [AOp.eval, xF_eq, hx, appendEv, hsrc, h4, h2, h3, h1, hb, readN, hg, hc, h7, s.len]
        | true =>
          rw [hb] at hk
          have hb : len + m ≤ c := Nat.le_of_ble_eq_true hb
          cases m with
          | zero =>
            refine ⟨_, H, h, n, ?_, s, hk⟩
            simp only [Nat.add_zero] at hb h4 ⊢
            simp [AOp.eval, xF_eq, hx, appendEv, hsrc, h4, h2, h3, h1, hb]
          | succ m =>
            obtain ⟨cc, hc, hl, hk⟩ := withK_ok hk
            obtain ⟨hi, hg⟩ := s.at rfl hl
            rw [fN_eq] at hk
            obtain ⟨h5, hk⟩ := spliceK_ok hk
            rw [putF_eq] at hk
            refine ⟨_, _, _, n, ?_, s.put hi _, hk⟩
            have h7 : off + len * sz + new.length ≤ cc.length := h5
            simp [AOp.eval, xF_eq, hx, appendEv, hsrc, h4, h2, h3, h1, hb, writeN, hg, hc, h7]
      | opn eo =>
        have hk : (AO.casesOn (motive := fun _ => Bool) (gH h i) (fun _ _ => false)
          (fun c t' sz' => chk (Nat.beq t' t) (chk (Nat.beq sz' sz) (chk (Nat.beq off (Nat.mul eo sz)) (fN (Nat.mul len sz) fun z => dropK c off fun d => takeK d z fun old =>
            Bool.casesOn (motive := fun _ => Bool) (Nat.ble (Nat.add off (Nat.mul (len + m) sz)) (lenK c))
              (appK old new fun r => putF h i .dead fun h => pushF h n (.row r t sz) fun h' n' => k (.slice (.mu n) 0 (len + m) (.opn 0)) h' n')
              (fN (Nat.add off z) fun z => spliceK new c z fun cc => putF h i (.row cc t' sz') fun h => k (.slice (.mu i) off (len + m) (.opn eo)) h n)))))
          (fun _ _ => false) (fun _ _ => false) (fun _ _ _ _ => false) false) = true := hk
        cases ho : gH h i with
        | row c t' sz' =>
          rw [ho] at hk
          obtain ⟨hi, hg⟩ := s.at ho rfl
          obtain ⟨h5, hk⟩ := chk_ok hk
          obtain ⟨h6, hk⟩ := chk_ok hk
          obtain ⟨h7, hk⟩ := chk_ok hk
          have h5 := Nat.eq_of_beq_eq_true h5
          have h6 := Nat.eq_of_beq_eq_true h6
          have h7 : off = eo * sz := Nat.eq_of_beq_eq_true h7
          have hk1 := hk
          subst h5; subst h6
          have hk := hk1
          rw [fN_eq] at hk
          obtain ⟨h8, hk⟩ := dropK_ok hk
          obtain ⟨h9, hk⟩ := takeK_ok hk
          have h9 : off + len * sz' ≤ c.length := by simp at h9; omega
          have hk : (Bool.casesOn (motive := fun _ => Bool) (Nat.ble (off + (len + m) * sz') (lenK c))
              (appK ((c.drop off).take (len * sz')) new fun r => putF h i .dead fun h => pushF h n (.row r t' sz') fun h' n' => k (.slice (.mu n) 0 (len + m) (.opn 0)) h' n')
              (fN (off + len * sz') fun z => spliceK new c z fun cc => putF h i (.row cc t' sz') fun h => k (.slice (.mu i) off (len + m) (.opn eo)) h n)) = true := hk
          rw [lenK_eq] at hk
          cases hb : Nat.ble (off + (len + m) * sz') c.length with
          | false =>
            rw [hb] at hk
            have hb : ¬ off + (len + m) * sz' ≤ c.length := by intro h'; rw [Nat.ble_eq_true_of_le h'] at hb; cases hb
            have hk : appK ((c.drop off).take (len * sz')) new (fun r => putF h i .dead fun h => pushF h n (.row r t' sz') fun h' n' => k (.slice (.mu n) 0 (len + m) (.opn 0)) h' n') = true := hk
            rw [appK_eq, putF_eq, pushF_eq] at hk
            refine ⟨_, _, _, _, ?_, (s.put hi .dead).push _, hk⟩
            simp only [AOp.eval, xF_eq, hx, appendEv, hsrc, hg]
            rw [if_pos ⟨h4, h2, h3, h1⟩, if_pos ⟨trivial, trivial, h7, h9⟩, if_neg hb, s.len]
          | true =>
            rw [hb] at hk
            have hb : off + (len + m) * sz' ≤ c.length := Nat.le_of_ble_eq_true hb
            have hk : fN (off + len * sz') (fun z => spliceK new c z fun cc => putF h i (.row cc t' sz') fun h => k (.slice (.mu i) off (len + m) (.opn eo)) h n) = true := hk
            rw [fN_eq] at hk
            obtain ⟨h10, hk⟩ := spliceK_ok hk
            rw [putF_eq] at hk
            refine ⟨_, _, _, n, ?_, s.put hi _, hk⟩
            simp only [AOp.eval, xF_eq, hx, appendEv, hsrc, hg]
            rw [if_pos ⟨h4, h2, h3, h1⟩, if_pos ⟨trivial, trivial, h7, h9⟩, if_pos hb]
            simp [writeN, hg, AO.content, AO.withContent, h10]
            simpa using h1
        | _ => rw [ho] at hk; cases hk
    · subst hl0
      have hk := hk1
      exact slowE_ok hk s
  · cases m with
    | zero =>
      refine ⟨.nilslice, H, h, n, ?_, s, hk⟩
      simp [AOp.eval, xF_eq, hx, appendEv, hsrc]
    | succ m =>
      obtain ⟨h4, hk⟩ := chk_ok (show chk (Nat.ble (Nat.mul (m + 1) by') 140737488355328) (pushF h n (.row new t sz) fun h' n' => k (.slice (.mu n) 0 (m + 1) (.opn 0)) h' n') = true from hk)
      have h4 : (m + 1) * by' ≤ 140737488355328 := Nat.le_of_ble_eq_true h4
      rw [pushF_eq] at hk
      refine ⟨_, _, _, _, ?_, s.push _, hk⟩
      simp only [AOp.eval, xF_eq, hx, appendEv, hsrc]
      rw [if_neg (by omega), if_pos ⟨h4, h2, h3, h1⟩, s.len]
end
end
end Am
namespace Am
open Go Go.RowKit
noncomputable section
theorem sliceEv_known (H : AH) (sz : Nat) (l : Loc) (off len c : Nat) (lo hi mx : Option AV) {v : AV} {G : AH} (h : sliceEv [] sz (.slice l off len (.known c)) lo hi mx = some (v, G)) : sliceEv H sz (.slice l off len (.known c)) lo hi mx = some (v, H) := by
  simp only [sliceEv] at h ⊢
  cases h1 : boundEv c c mx with
  | none => simp only [h1] at h; cases h
  | some m =>
    simp only [h1] at h ⊢
    cases h2 : boundEv len m hi with
    | none => simp only [h2] at h; cases h
    | some t =>
      simp only [h2] at h ⊢
      cases h3 : boundEv 0 t lo with
      | none => simp only [h3] at h; cases h
      | some q =>
        simp only [h3, Option.some.injEq, Prod.mk.injEq] at h ⊢
        exact ⟨h.1, trivial⟩
theorem sliceEv_opn {H : AH} {i : Nat} {c : List AV} {t sz' : Nat} (hg : H[i]? = some (.row c t sz')) (sz off len eo : Nat) (lo hi mx : Option AV) {o m : Nat} {cp : Cap} {G : AH}
    (h : sliceEv [.row c t sz'] sz (.slice (.mu 0) off len (.opn eo)) lo hi mx = some (.slice (.mu 0) o m cp, G)) : sliceEv H sz (.slice (.mu i) off len (.opn eo)) lo hi mx = some (.slice (.mu i) o m cp, H) := by
  simp only [sliceEv, List.getElem?_cons_zero] at h
  simp only [sliceEv, hg]
  by_cases hc : sz' = sz ∧ off = eo * sz ∧ sz ≠ 0 ∧ off ≤ c.length
  · rw [if_pos hc] at h ⊢
    cases mx with
    | some mv =>
      dsimp only at h ⊢
      cases h1 : boundEv 0 ((c.length - off) / sz) (some mv) with
      | none => simp only [h1] at h; cases h
      | some m1 =>
        simp only [h1] at h ⊢
        cases h2 : boundEv len m1 hi with
        | none => simp only [h2] at h; cases h
        | some t1 =>
          simp only [h2] at h ⊢
          cases h3 : boundEv 0 t1 lo with
          | none => simp only [h3] at h; cases h
          | some q =>
            simp only [h3, Option.some.injEq, Prod.mk.injEq, AV.slice.injEq] at h ⊢
            exact ⟨⟨trivial, h.1.2⟩, trivial⟩
    | none =>
      dsimp only at h ⊢
      cases h2 : boundEv len ((c.length - off) / sz) hi with
      | none => simp only [h2] at h; cases h
      | some t1 =>
        simp only [h2] at h ⊢
        by_cases h4 : t1 ≤ (c.length - off) / sz
        · rw [if_pos h4] at h ⊢
          cases h3 : boundEv 0 t1 lo with
          | none => simp only [h3] at h; cases h
          | some q =>
            simp only [h3] at h ⊢
            by_cases h5 : q = 0
            · rw [if_pos h5] at h ⊢
              simp only [Option.some.injEq, Prod.mk.injEq, AV.slice.injEq] at h ⊢
              exact ⟨⟨trivial, h.1.2⟩, trivial⟩
            · rw [if_neg h5] at h ⊢
              by_cases h6 : q < t1
              · rw [if_pos h6] at h ⊢
                simp only [Option.some.injEq, Prod.mk.injEq, AV.slice.injEq] at h ⊢
                exact ⟨⟨trivial, h.1.2⟩, trivial⟩
              · rw [if_neg h6] at h
                simp at h
        · rw [if_neg h4] at h; cases h
  · rw [if_neg hc] at h; cases h
theorem sliceEv_opn2 {H : AH} {i : Nat} {c : List AV} {t sz' : Nat} (hg : H[i]? = some (.row c t sz')) (sz off len eo : Nat) (lo hi mx : Option AV) {o m : Nat} {cp : Cap} {G : AH}
    (h : sliceEv [.row c t sz'] sz (.slice (.mu 0) off len (.opn eo)) lo hi mx = some (.slice (.mu 1) o m cp, G)) : sliceEv H sz (.slice (.mu i) off len (.opn eo)) lo hi mx = some (.slice (.mu H.length) 0 0 (.opn 0), H ++ [.dead]) := by
  simp only [sliceEv, List.getElem?_cons_zero] at h
  simp only [sliceEv, hg]
  by_cases hc : sz' = sz ∧ off = eo * sz ∧ sz ≠ 0 ∧ off ≤ c.length
  · rw [if_pos hc] at h ⊢
    cases mx with
    | some mv =>
      dsimp only at h ⊢
      cases h1 : boundEv 0 ((c.length - off) / sz) (some mv) with
      | none => simp only [h1] at h; cases h
      | some m1 =>
        simp only [h1] at h ⊢
        cases h2 : boundEv len m1 hi with
        | none => simp only [h2] at h; cases h
        | some t1 =>
          simp only [h2] at h ⊢
          cases h3 : boundEv 0 t1 lo with
          | none => simp only [h3] at h; cases h
          | some q => simp only [h3] at h; simp at h
    | none =>
      dsimp only at h ⊢
      cases h2 : boundEv len ((c.length - off) / sz) hi with
      | none => simp only [h2] at h; cases h
      | some t1 =>
        simp only [h2] at h ⊢
        by_cases h4 : t1 ≤ (c.length - off) / sz
        · rw [if_pos h4] at h ⊢
          cases h3 : boundEv 0 t1 lo with
          | none => simp only [h3] at h; cases h
          | some q =>
            simp only [h3] at h ⊢
            by_cases h5 : q = 0
            · rw [if_pos h5] at h; simp at h
            · rw [if_neg h5] at h ⊢
              by_cases h6 : q < t1
              · rw [if_pos h6] at h; simp at h
              · rw [if_neg h6]
        · rw [if_neg h4] at h; cases h
  · rw [if_neg hc] at h; cases h
section
variable {P : Program} {R : Ro} {e : ET} {h : HT} {n : Nat} {k : AV → HT → Nat → Bool}
theorem map_xF (e : ET) (o : Option X) : o.map (X.ev (envT e)) = o.map (xF e) := by cases o <;> simp [xF_eq]
theorem sliceF_ok {sz : Nat} {x : X} {lo hi mx : Option X} (hk : sliceF P R e h n k sz x lo hi mx = true) {H : AH} (s : Sim h n H) : Res P R e k H (.slice sz x lo hi mx) := by
  rcases isSlice_ok hk with ⟨l, off, len, cap, hx, hk⟩ | ⟨hx, hk⟩
  · cases cap with
    | known c =>
      have hk : (match sliceEv [] sz (xF e x) (lo.map (xF e)) (hi.map (xF e)) (mx.map (xF e)) with | some (v, _) => fAV v fun v => k v h n | none => false) = true := hk
      split at hk
      · rename_i v G hv
        rw [fAV_eq] at hk
        rw [hx] at hv
        refine ⟨v, H, h, n, ?_, s, hk⟩
        simp only [AOp.eval, xF_eq, map_xF, hx]
        exact sliceEv_known H _ _ _ _ _ _ _ _ hv
      · cases hk
    | opn eo =>
      rcases isMu_ok (show isMu l _ _ = true from hk) with ⟨i, hl0, hk1⟩ | ⟨b, hl0, hk1⟩
      · subst hl0
        have hk := hk1
        cases ho : gH h i with
        | row c t sz' =>
          rw [ho] at hk
          obtain ⟨hi', hg⟩ := s.at ho rfl
          have hk : (match sliceEv [.row c t sz'] sz (.slice (.mu 0) off len (.opn eo)) (lo.map (xF e)) (hi.map (xF e)) (mx.map (xF e)) with
            | some (.slice (.mu 0) o m cp, _) => fN o fun o => fN m fun m => fCap cp fun cp => k (.slice (.mu i) o m cp) h n
            | some (.slice (.mu 1) _ _ _, _) => pushF h n .dead fun h' n' => k (.slice (.mu n) 0 0 (.opn 0)) h' n'
            | some _ => slowE P R e h n k (.slice sz x lo hi mx)
            | none => false) = true := hk
          split at hk
          · rename_i o m cp G hv
            rw [fN_eq, fN_eq, fCap_eq] at hk
            refine ⟨_, H, h, n, ?_, s, hk⟩
            simp only [AOp.eval, xF_eq, map_xF, hx]
            exact sliceEv_opn hg _ _ _ _ _ _ _ hv
          · rename_i o m cp G hv
            rw [pushF_eq] at hk
            refine ⟨_, _, _, _, ?_, s.push _, hk⟩
            simp only [AOp.eval, xF_eq, map_xF, hx]
            rw [sliceEv_opn2 hg _ _ _ _ _ _ _ hv, s.len]
          · exact slowE_ok hk s
          · cases hk
        | _ => rw [ho] at hk; cases hk
      · subst hl0
        have hk := hk1
        cases hk
  · exact slowE_ok hk s
theorem siterK_ok {o : AO} {q : List UInt8 → Nat → Bool} (hk : siterK o q = true) : ∃ s p, o = .siter s p ∧ q s p = true := by
  cases o <;> first | exact ⟨_, _, rfl, hk⟩ | cases hk
theorem nextF_ok {x : X} (hk : nextF e h n k x = true) {H : AH} (s : Sim h n H) : Res P R e k H (.nextS x) := by
  obtain ⟨l, o, hx, hk⟩ := isPtr_ok hk
  rcases isMu_ok hk with ⟨i, hl0, hk1⟩ | ⟨b, hl0, hk1⟩
  · cases o with
    | zero =>
      obtain ⟨t, p, ho, hk⟩ := siterK_ok hk1
      obtain ⟨hi, hg⟩ := s.at ho rfl
      rw [lenT_eq] at hk
      cases hb : Nat.ble (Nat.succ p) t.length with
      | false =>
        rw [hb] at hk
        have hb : ¬ p < t.length := by intro h'; rw [Nat.ble_eq_true_of_le (show Nat.succ p ≤ t.length from h')] at hb; cases hb
        refine ⟨_, H, h, n, ?_, s, hk⟩
        subst hl0
        simp [AOp.eval, xF_eq, hx, hg, hb]
      | true =>
        rw [hb] at hk
        have hb : p < t.length := Nat.le_of_ble_eq_true hb
        have hk : fI (Utf8.decode ⟨⟨t⟩⟩ p).1 (fun r => fN (p + (Utf8.decode ⟨⟨t⟩⟩ p).2) fun q => putF h i (.siter t q) fun h => k (.tuple [.bool true, .int .i64 (.ofNat p), .int .i32 r]) h n) = true := hk
        rw [fI_eq, fN_eq, putF_eq] at hk
        refine ⟨_, _, _, n, ?_, s.put hi _, hk⟩
        subst hl0
        simp [AOp.eval, xF_eq, hx, hg, hb]
    | succ o => cases hk1
  · cases hk1
theorem bsliceF_ok {t sz ln : Nat} {z : List AV} {ps : List (Nat × X)} (hk : bsliceF e h n k t sz ln z ps = true) {H : AH} (s : Sim h n H) : Res P R e k H (.bslice t sz ln z ps) := by
  unfold bsliceF at hk
  split at hk
  · rename_i c hc
    obtain ⟨h1, hk⟩ := chk_ok hk
    have h1 := Nat.eq_of_beq_eq_true h1
    rw [lenK_eq] at h1
    rw [fAVL_eq] at hk
    obtain ⟨h2, hk⟩ := chk_ok hk
    rw [ones_eq] at h2
    rw [pushF_eq] at hk
    refine ⟨_, _, _, _, ?_, s.push _, hk⟩
    simp only [AOp.eval, xF_eq, hc]
    rw [if_pos ⟨h1, h2⟩, s.len]
  · cases hk
theorem makeF_ok {t sz by' : Nat} {z : List AV} {l c : X} (hk : makeF e h n k t sz by' z l c = true) {H : AH} (s : Sim h n H) : Res P R e k H (.mksl t sz by' z l c) := by
  obtain ⟨q, lv, hl, hk⟩ := isInt_ok hk
  obtain ⟨q', cv, hc, hk⟩ := isInt_ok hk
  obtain ⟨h1, h2, hk⟩ := idxK_ok hk
  obtain ⟨h3, hk⟩ := chk_ok hk
  have h3 := of_decide_eq_true h3
  obtain ⟨h4, hk⟩ := chk_ok hk
  have h4 := Nat.eq_of_beq_eq_true h4
  rw [lenK_eq] at h4
  obtain ⟨h5, hk⟩ := chk_ok hk
  rw [ones_eq] at h5
  rw [fN_eq, fAVL_eq, pushF_eq] at hk
  refine ⟨_, _, _, _, ?_, s.push _, hk⟩
  simp only [AOp.eval, xF_eq, hl, hc]
  rw [if_pos ⟨h1, by omega, h3.2.1, h3.2.2, h4, h5⟩, s.len]
theorem opF_ok {op : AOp} (hk : opF P R e h n k op = true) {H : AH} (s : Sim h n H) : Res P R e k H op := by
  unfold opF at hk
  split at hk
  · rw [hd_eq] at hk
    exact ⟨_, H, h, n, by simp [AOp.eval, xF_eq], s, hk⟩
  · obtain ⟨b, hb, hk⟩ := isBool_ok hk
    cases b with
    | false => rw [hd_eq] at hk; exact ⟨_, H, h, n, by simp [AOp.eval, xF_eq, hb], s, hk⟩
    | true =>
      have hk : hd (xF e _) (fun v => k v h n) = true := hk
      rw [hd_eq] at hk; exact ⟨_, H, h, n, by simp [AOp.eval, xF_eq, hb], s, hk⟩
  · exact loadF_ok hk s
  · exact storeF_ok hk s
  · exact binF_ok hk s
  · rcases isAgg_ok hk with ⟨cs, _, hk⟩ | ⟨vs, hx, hk⟩
    · cases hk
    · obtain ⟨v, hv, hk⟩ := nthK_ok hk
      exact ⟨v, H, h, n, by simp [AOp.eval, xF_eq, hx, hv], s, hk⟩
  · rename_i off m x
    rcases isAgg_ok hk with ⟨cs, hx, hk⟩ | ⟨vs, _, hk⟩
    · cases m with
      | none =>
        obtain ⟨v, hv, hk⟩ := nthK_ok hk
        exact ⟨v, H, h, n, by simp [AOp.eval, xF_eq, hx, hv], s, hk⟩
      | some m =>
        obtain ⟨_, hk⟩ := dropK_ok hk
        obtain ⟨_, hk⟩ := takeK_ok hk
        exact ⟨_, H, h, n, by simp [AOp.eval, xF_eq, hx], s, hk⟩
    · cases hk
  · obtain ⟨l, o, hx, hk⟩ := isPtr_ok hk
    rw [fN_eq] at hk
    exact ⟨_, H, h, n, by simp [AOp.eval, xF_eq, hx], s, hk⟩
  · rcases isSlice_ok hk with ⟨l, o, ln, c, hx, hk⟩ | ⟨_, hk⟩
    · obtain ⟨q, j, hj, hk⟩ := isInt_ok hk
      obtain ⟨h1, h2, hk⟩ := idxK_ok hk
      rw [fN_eq] at hk
      exact ⟨_, H, h, n, by simp [AOp.eval, xF_eq, hx, hj, h1, h2], s, hk⟩
    · cases hk
  · obtain ⟨l, o, hx, hk⟩ := isPtr_ok hk
    obtain ⟨q, j, hj, hk⟩ := isInt_ok hk
    obtain ⟨h1, h2, hk⟩ := idxK_ok hk
    rw [fN_eq] at hk
    exact ⟨_, H, h, n, by simp [AOp.eval, xF_eq, hx, hj, h1, h2], s, hk⟩
  · rcases isSlice_ok hk with ⟨l, o, ln, c, hx, hk⟩ | ⟨hx, hk⟩
    · exact ⟨_, H, h, n, by simp [AOp.eval, xF_eq, hx], s, hk⟩
    · exact ⟨_, H, h, n, by simp [AOp.eval, xF_eq, hx], s, hk⟩
  · obtain ⟨h1, hk⟩ := chk_ok hk
    rw [ones_eq] at h1
    rw [pushF_eq] at hk
    refine ⟨_, _, _, _, ?_, s.push _, hk⟩
    simp only [AOp.eval]
    rw [if_pos h1, s.len]
  · rw [cellsK_eq] at hk
    obtain ⟨h1, hk⟩ := chk_ok hk
    rw [ones_eq] at h1
    rw [pushF_eq] at hk
    refine ⟨_, _, _, _, ?_, s.push _, hk⟩
    simp only [AOp.eval, xF_eq]
    rw [if_pos h1, s.len]
  · obtain ⟨q, z, hx, hk⟩ := isInt_ok hk
    rw [wrF_eq] at hk
    exact ⟨_, H, h, n, by simp [AOp.eval, xF_eq, hx], s, hk⟩
  · exact appendF_ok hk s
  · exact sliceF_ok hk s
  · obtain ⟨t, hx, hk⟩ := isStr_ok hk
    rw [lenT_eq] at hk
    exact ⟨_, H, h, n, by simp [AOp.eval, xF_eq, hx], s, hk⟩
  · obtain ⟨t, hx, hk⟩ := isStr_ok hk
    rw [pushF_eq] at hk
    exact ⟨_, _, _, _, by simp [AOp.eval, xF_eq, hx, s.len], s.push _, hk⟩
  · exact nextF_ok hk s
  · exact bsliceF_ok hk s
  · exact makeF_ok hk s
  · rw [pushF_eq] at hk
    exact ⟨_, _, _, _, by simp [AOp.eval, s.len], s.push _, hk⟩
  · cases hk
  · cases hk
  · cases hk
  · split at hk
    · rename_i hq; exact slowQ_ok hq hk s
    · exact slowE_ok hk s
end

/-! ### The machine -/
structure M where
  call : FuncId → List AV → HT → Nat → (AV → HT → Nat → Bool) → Bool
  code : AC → ET → HT → Nat → (Exit → ET → HT → Nat → Bool) → Bool
def M.bad : M := ⟨fun _ _ _ _ _ => false, fun _ _ _ _ _ => false⟩
/-- A contract in the evaluator's words. -/
abbrev Ctr := M → List AV → HT → Nat → (AV → HT → Nat → Bool) → Bool
def PostC (k : AV → HT → Nat → Bool) : AV → AH → Prop := fun v H => ∃ h n, Sim h n H ∧ k v h n = true
def GoodCall (P : Program) (R : Ro) (m : M) : Prop := ∀ f args h n k H, Sim h n H → m.call f args h n k = true → ACalls P R f args H (PostC k)
def PostT (k : Exit → ET → HT → Nat → Bool) : Exit → Env → AH → Prop := fun ex e H => ∃ e' h n, e = envT e' ∧ Sim h n H ∧ k ex e' h n = true
def GoodBody (P : Program) (R : Ro) (m : M) : Prop := ∀ ac nt e h n k H, Sim h n H → m.code ac e h n k = true → AWp P R nt ac (PostT k) (envT e) H
def CtrOk (P : Program) (R : Ro) (f : FuncId) (g : Ctr) : Prop := ∀ m, GoodCall P R m → GoodBody P R m → ∀ args h n k H, Sim h n H → g m args h n k = true → ACalls P R f args H (PostC k)
structure HeldT where
  o : AOper
  e : ET
  v : AV
section
variable (P : Program) (R : Ro) (tab : FuncId → Option AFn) (ctr : FuncId → Option Ctr) (m : M)
def putE (d : Option Nat) (v : AV) (e : ET) (q : ET → Bool) : Bool := Option.casesOn (motive := fun _ => Bool) d (q e) fun t => BT.setK AV.undef e t v q
def guardF (o : AOper) (e : ET) (a b : Bool) : Bool := Option.casesOn (motive := fun _ => Bool) o.guard a fun p => isBool (gE e p.1) (fun c => Bool.casesOn (motive := fun _ => Bool) c (Bool.casesOn (motive := fun _ => Bool) p.2 a b) (Bool.casesOn (motive := fun _ => Bool) p.2 b a)) (isAgg (gE e p.1) (fun _ => false) (fun vs => List.casesOn (motive := fun _ => Bool) vs b fun _ _ => false) false)
def argsK (e : ET) (xs : List X) : (List AV → Bool) → Bool := List.rec (motive := fun _ => (List AV → Bool) → Bool) (fun q => q []) (fun x _ ih q => hd (xF e x) fun v => ih fun vs => q (v :: vs)) xs
def stepF (o : AOper) (e : ET) (h : HT) (n : Nat) (q : ET → HT → Nat → Bool) : Bool := match o.op with
  | .call f xs => argsK e xs fun as => m.call f as h n fun v h n => putE o.dst v e fun e => q e h n
  | .callv x xs => match xF e x with
    | .fn (.func f) first captured => chk (bodied P f) (argsK e xs fun as => appK as captured fun as => appK first as fun as => m.call f as h n fun v h n => putE o.dst v e fun e => q e h n)
    | _ => false
  | op => opF P R e h n (fun v h n => putE o.dst v e fun e => q e h n) op
def opsF (l : List AOper) : ET → HT → Nat → (ET → HT → Nat → Bool) → Bool := List.rec (motive := fun _ => ET → HT → Nat → (ET → HT → Nat → Bool) → Bool) (fun e h n q => q e h n)
  (fun o _ ih e h n q => guardF o e (stepF P R m o e h n fun e h n => ih e h n q) (putE o.dst AV.undef e fun e => ih e h n q)) l
def heldF (x : HeldT) (h : HT) (n : Nat) : Bool := x.o.op.quiet && opF P R x.e h n (fun v _ _ => beqAV v x.v) x.o.op
def drawF (ds : List DOper) (B : List Nat) (q : ET → HT → Nat → Bool) (fuel : Nat) : List (Nat × HeldT) → List Nat → ET → HT → Nat → Bool :=
  Nat.rec (motive := fun _ => List (Nat × HeldT) → List Nat → ET → HT → Nat → Bool) (fun _ done e h n => (readyA ds done).isEmpty && q e h n)
    (fun _ ih T done e h n => match firstQ ds done (envT e) with
      | some i => match ds[i]? with
        | some d => match wantedA d.o (envT e) with
          | some false => putE d.o.dst AV.undef e fun e => ih T (i :: done) e h n
          | some true => opF P R e h n (fun v _ _ => putE d.o.dst v e fun e' => ih ((i, ⟨d.o, e, v⟩) :: T) (i :: done) e' h n) d.o.op
          | none => false
        | none => false
      | none => (!(readyA ds done).isEmpty || q e h n) && (readyA ds done).all fun i => match ds[i]? with
        | some d => (wantedA d.o (envT e) == some true) && stepF P R m d.o e h n fun e' h' n' => (keepT (effA ds) B T i).all (fun x => heldF P R x.2 h' n') && ih (keepT (effA ds) B T i) (i :: done) e' h' n'
        | none => false) fuel
def preLt (pre : List Nat) (i : Nat) : Bool := List.rec (motive := fun _ => Bool) true (fun p _ ih => chk (Nat.ble (Nat.succ p) i) ih) pre
def seqOk (ds : List DOper) : Nat → Bool := List.rec (motive := fun _ => Nat → Bool) (fun _ => true) (fun d _ ih i => chk d.o.op.quiet (chk (preLt d.pre i) (ih (Nat.succ i)))) ds
def exK (ex : Exit) (a : Bool) (b : Exit → Bool) : Bool := match ex with
  | .normal => a
  | ex => b ex
def codeF (ac : AC) : ET → HT → Nat → (Exit → ET → HT → Nat → Bool) → Bool := AC.rec (motive := fun _ => ET → HT → Nat → (Exit → ET → HT → Nat → Bool) → Bool)
  (fun e h n k => k .normal e h n)
  (fun l e h n k => opsF P R m l e h n fun e h n => k .normal e h n)
  (fun ds B e h n k => Bool.casesOn (motive := fun _ => Bool) (seqOk ds 0) (drawF P R m ds B (fun e h n => k .normal e h n) ds.length [] [] e h n) (opsF P R m (ds.map DOper.o) e h n fun e h n => k .normal e h n))
  (fun _ _ iha ihb e h n k => iha e h n fun ex e h n => exK ex (ihb e h n k) fun ex => k ex e h n)
  (fun c _ _ iha ihb e h n k => isBool (xF e c) (fun t => Bool.casesOn (motive := fun _ => Bool) t (ihb e h n k) (iha e h n k)) false)
  (fun id _ iha e h n k => iha e h n fun ex e h n => match ex with
    | .exit id' => Bool.casesOn (motive := fun _ => Bool) (Nat.beq id' id) (k (.exit id') e h n) (k .normal e h n)
    | ex => k ex e h n)
  (fun a iha e h n k => iha e h n fun ex e h n => exK ex (m.code (.loop a) e h n k) fun ex => k ex e h n)
  (fun id e h n k => k (.exit id) e h n)
  (fun e h n k => k .ret e h n)
  (fun _ _ _ _ _ _ _ _ _ _ => false)
  (fun _ _ _ _ => false) ac
def argsE (as : List AV) : Nat → ET → (ET → Bool) → Bool := List.rec (motive := fun _ => Nat → ET → (ET → Bool) → Bool) (fun _ e q => q e) (fun v _ ih i e q => BT.setK AV.undef e i v fun e => fN (Nat.succ i) fun i => ih i e q) as
def res1K (e : ET) (h : HT) (r : RX) (q : AV → Bool) : Bool := match r with
  | .tmp t => hd (gE e t) q
  | .cell t z => isPtr (gE e t) (fun l o => isMu l (fun i => withK (gH h i) fun c _ => Option.casesOn (motive := fun _ => Bool) z (nthK c o q) fun z => dropK c o fun d => takeK d z fun d => q (.agg d)) (fun _ => false)) false
def resK (e : ET) (h : HT) (rs : List RX) : (List AV → Bool) → Bool := List.rec (motive := fun _ => (List AV → Bool) → Bool) (fun q => q []) (fun r _ ih q => res1K e h r fun v => ih fun vs => q (v :: vs)) rs
def resVK (vs : List AV) (q : AV → Bool) : Bool := List.casesOn (motive := fun _ => Bool) vs (q (.tuple [])) fun v r => List.casesOn (motive := fun _ => Bool) r (q v) fun _ _ => q (.tuple vs)
def callF (f : FuncId) (args : List AV) (h : HT) (n : Nat) (k : AV → HT → Nat → Bool) : Bool := match tab f with
  | some af => chk (Nat.ble (lenK args) af.nt) (argsE args 0 .nil fun e => m.code af.body e h n fun ex e h n => match ex with
    | .normal | .ret => resK e h af.res fun vs => resVK vs fun v => k v h n
    | _ => false)
  | none => match ctr f with
    | some g => g m args h n k
    | none => false
def runM (j : Nat) : M := Nat.rec (motive := fun _ => M) M.bad (fun _ m => ⟨callF tab ctr m, codeF P R m⟩) j
end
section
variable {P : Program} {R : Ro} {tab : FuncId → Option AFn} {ctr : FuncId → Option Ctr} {m : M}
def PostE (q : ET → HT → Nat → Bool) : Env → AH → Prop := fun e H => ∃ e' h n, e = envT e' ∧ Sim h n H ∧ q e' h n = true
theorem putE_ok {d : Option Nat} {v : AV} {e : ET} {q : ET → Bool} (h : putE d v e q = true) : ∃ e', (envT e).put d v = envT e' ∧ q e' = true := by
  cases d with
  | none => exact ⟨e, rfl, h⟩
  | some t =>
    have h : BT.setK AV.undef e t v q = true := h
    rw [BT.setK_eq] at h
    exact ⟨_, envT_put e t v, h⟩
theorem guardF_ok {o : AOper} {e : ET} {a b : Bool} (h : guardF o e a b = true) : (wantedA o (envT e) = some true ∧ a = true) ∨ (wantedA o (envT e) = some false ∧ b = true) := by
  unfold guardF at h
  unfold wantedA
  cases hg : o.guard with
  | none => rw [hg] at h; exact .inl ⟨rfl, h⟩
  | some p =>
    obtain ⟨t, w⟩ := p
    rw [hg] at h
    have h : isBool (gE e t) (fun c => Bool.casesOn (motive := fun _ => Bool) c (Bool.casesOn (motive := fun _ => Bool) w a b) (Bool.casesOn (motive := fun _ => Bool) w b a)) (isAgg (gE e t) (fun _ => false) (fun vs => List.casesOn (motive := fun _ => Bool) vs b fun _ _ => false) false) = true := h
    have he : envT e t = gE e t := rfl
    simp only [he]
    cases hv : gE e t with
    | bool c =>
      rw [hv] at h
      have h : Bool.casesOn (motive := fun _ => Bool) c (Bool.casesOn (motive := fun _ => Bool) w a b) (Bool.casesOn (motive := fun _ => Bool) w b a) = true := h
      cases c <;> cases w
      · exact .inl ⟨rfl, h⟩
      · exact .inr ⟨rfl, h⟩
      · exact .inr ⟨rfl, h⟩
      · exact .inl ⟨rfl, h⟩
    | tuple vs =>
      rw [hv] at h
      cases vs with
      | nil => exact .inr ⟨rfl, h⟩
      | cons x xs => cases h
    | _ => rw [hv] at h; cases h
theorem argsK_eq (e : ET) : ∀ (xs : List X) (q : List AV → Bool), argsK e xs q = q (xs.map (X.ev (envT e)))
  | [], q => rfl
  | x :: xs, q => by
    show hd (xF e x) (fun v => argsK e xs fun vs => q (v :: vs)) = _
    rw [hd_eq, argsK_eq e xs, List.map_cons, xF_eq]
theorem stepF_ok (hm : GoodCall P R m) {o : AOper} {e : ET} {h : HT} {n : Nat} {q : ET → HT → Nat → Bool} (hk : stepF P R m o e h n q = true) {H : AH} (s : Sim h n H) : stepOp P R o (PostE q) (envT e) H := by
  unfold stepF at hk
  unfold stepOp
  split at hk
  · rename_i f xs hop
    rw [hop]
    rw [argsK_eq] at hk
    refine (hm _ _ _ _ _ _ s hk).mono ?_
    rintro v H' ⟨h', n', s', hk'⟩
    obtain ⟨e', he, hq⟩ := putE_ok hk'
    exact ⟨e', h', n', he, s', hq⟩
  · rename_i x xs hop
    rw [hop]
    split at hk
    · rename_i f first captured hx
      obtain ⟨hb, hk⟩ := chk_ok hk
      rw [argsK_eq, appK_eq, appK_eq] at hk
      have e1 : fnArgs (x.ev (envT e)) (xs.map (X.ev (envT e))) = some (f, first ++ xs.map (X.ev (envT e)) ++ captured) := by rw [xF_eq, hx]; rfl
      dsimp only
      rw [e1]
      rw [← List.append_assoc] at hk
      refine ⟨hb, (hm _ _ _ _ _ _ s hk).mono ?_⟩
      rintro v H' ⟨h', n', s', hk'⟩
      obtain ⟨e', he, hq⟩ := putE_ok hk'
      exact ⟨e', h', n', he, s', hq⟩
    · cases hk
  · obtain ⟨v, H', h', n', hev, s', hk'⟩ := opF_ok hk s
    obtain ⟨e', he, hq⟩ := putE_ok hk'
    split
    · simp_all [AOp.eval]
    · simp_all [AOp.eval]
    · rw [hev]
      exact ⟨e', h', n', he, s', hq⟩
theorem opsF_ok (hm : GoodCall P R m) : ∀ {l : List AOper} {e : ET} {h : HT} {n : Nat} {q : ET → HT → Nat → Bool}, opsF P R m l e h n q = true → ∀ {H : AH}, Sim h n H → runOps P R l (PostE q) (envT e) H
  | [], e, h, n, q, hk, H, s => ⟨e, h, n, rfl, s, hk⟩
  | o :: os, e, h, n, q, hk, H, s => by
    rcases guardF_ok (show guardF o e (stepF P R m o e h n fun e h n => opsF P R m os e h n q) (putE o.dst AV.undef e fun e => opsF P R m os e h n q) = true from hk) with ⟨hw, hk⟩ | ⟨hw, hk⟩
    · simp only [runOps, hw]
      refine stepOp_mono ?_ (stepF_ok hm hk s)
      rintro e H ⟨e', h', n', rfl, s', hq⟩
      exact opsF_ok hm hq s'
    · simp only [runOps, hw]
      obtain ⟨e', he, hq⟩ := putE_ok hk
      rw [he]
      exact opsF_ok hm hq s
def heldOf (x : Nat × HeldT) : Nat × Held := (x.1, ⟨x.2.o, envT x.2.e, x.2.v⟩)
theorem keepT_map (eff : Nat → Bool) (B : List Nat) (T : List (Nat × HeldT)) (i : Nat) : keepT eff B (T.map heldOf) i = (keepT eff B T i).map heldOf := by
  unfold keepT
  split
  · rw [List.filter_map]; rfl
  · rfl
theorem heldF_ok {x : HeldT} {h : HT} {n : Nat} {H : AH} (s : Sim h n H) (hk : heldF P R x h n = true) : recheck P R ⟨x.o, envT x.e, x.v⟩ H := by
  unfold heldF at hk
  simp only [Bool.and_eq_true] at hk
  obtain ⟨v, H', h', n', hev, _, hv⟩ := opF_ok hk.2 s
  have := quiet_same hk.1 hev
  subst this
  unfold recheck
  rw [hev, beqAV_eq hv]
theorem drawF_ok (hm : GoodCall P R m) {ds : List DOper} {B : List Nat} {q : ET → HT → Nat → Bool} : ∀ (fuel : Nat) (T : List (Nat × HeldT)) (done : List Nat) {e : ET} {h : HT} {n : Nat}, drawF P R m ds B q fuel T done e h n = true → ∀ {H : AH}, Sim h n H →
    execD P R ds B (PostE q) fuel (T.map heldOf) done (envT e) H
  | 0, T, done, e, h, n, hk, H, s => by
    have hk : ((readyA ds done).isEmpty && q e h n) = true := hk
    simp only [Bool.and_eq_true] at hk
    exact ⟨by simpa using hk.1, e, h, n, rfl, s, hk.2⟩
  | fuel + 1, T, done, e, h, n, hk, H, s => by
    have hk : (match firstQ ds done (envT e) with
      | some i => match ds[i]? with
        | some d => match wantedA d.o (envT e) with
          | some false => putE d.o.dst AV.undef e fun e => drawF P R m ds B q fuel T (i :: done) e h n
          | some true => opF P R e h n (fun v _ _ => putE d.o.dst v e fun e' => drawF P R m ds B q fuel ((i, ⟨d.o, e, v⟩) :: T) (i :: done) e' h n) d.o.op
          | none => false
        | none => false
      | none => (!(readyA ds done).isEmpty || q e h n) && (readyA ds done).all fun i => match ds[i]? with
        | some d => (wantedA d.o (envT e) == some true) && stepF P R m d.o e h n fun e' h' n' => (keepT (effA ds) B T i).all (fun x => heldF P R x.2 h' n') && drawF P R m ds B q fuel (keepT (effA ds) B T i) (i :: done) e' h' n'
        | none => false) = true := hk
    simp only [execD]
    split at hk
    · rename_i i hfi
      rw [hfi]
      dsimp only
      split at hk
      · rename_i d hdi
        rw [hdi]
        dsimp only
        split at hk
        · rename_i hw
          rw [hw]
          dsimp only
          obtain ⟨e', he, hq⟩ := putE_ok hk
          rw [he]
          exact drawF_ok hm fuel _ _ hq s
        · rename_i hw
          rw [hw]
          dsimp only
          obtain ⟨v, H', h', n', hev, _, hk'⟩ := opF_ok hk s
          rw [hev]
          dsimp only
          obtain ⟨e', he, hq⟩ := putE_ok hk'
          rw [he]
          exact drawF_ok hm fuel ((i, ⟨d.o, e, v⟩) :: T) _ hq s
        · cases hk
      · cases hk
    · rename_i hfi
      rw [hfi]
      dsimp only
      simp only [Bool.and_eq_true, Bool.or_eq_true, List.all_eq_true] at hk
      refine ⟨fun h0 => ?_, fun i hi => ?_⟩
      · rcases hk.1 with h1 | h1
        · rw [h0] at h1; simp at h1
        · exact ⟨e, h, n, rfl, s, h1⟩
      · have h2 := hk.2 i hi
        split at h2
        · rename_i d hdi
          simp only [Bool.and_eq_true] at h2
          rw [hdi]
          dsimp only
          refine ⟨by simpa using h2.1, stepOp_mono ?_ (stepF_ok hm h2.2 s)⟩
          rintro e1 H1 ⟨e', h', n', rfl, s', hq⟩
          simp only [Bool.and_eq_true, List.all_eq_true] at hq
          rw [keepT_map]
          refine ⟨fun x hx => ?_, drawF_ok hm fuel _ _ hq.2 s'⟩
          obtain ⟨y, hy, rfl⟩ := List.mem_map.1 hx
          exact heldF_ok s' (hq.1 y hy)
        · cases h2
theorem preLt_ok : ∀ {pre : List Nat} {i : Nat}, preLt pre i = true → ∀ p ∈ pre, p < i
  | [], i, h, p, hp => by cases hp
  | q :: pre, i, h, p, hp => by
    obtain ⟨h1, h2⟩ := chk_ok (show chk (Nat.ble (Nat.succ q) i) (preLt pre i) = true from h)
    rcases List.mem_cons.1 hp with rfl | hp
    · exact Nat.le_of_ble_eq_true h1
    · exact preLt_ok h2 p hp
theorem seqOk_ok : ∀ {ds : List DOper} {i : Nat}, seqOk ds i = true → ∀ (j : Nat) d, ds[j]? = some d → d.o.op.quiet = true ∧ ∀ p ∈ d.pre, p < i + j
  | [], i, h, j, d, hd => by simp at hd
  | c :: ds, i, h, j, d, hd => by
    obtain ⟨h1, h⟩ := chk_ok (show chk c.o.op.quiet (chk (preLt c.pre i) (seqOk ds (Nat.succ i))) = true from h)
    obtain ⟨h2, h⟩ := chk_ok h
    cases j with
    | zero =>
      simp at hd
      subst hd
      exact ⟨h1, preLt_ok h2⟩
    | succ j =>
      simp at hd
      obtain ⟨a, b⟩ := seqOk_ok h j d hd
      exact ⟨a, fun p hp => by have := b p hp; omega⟩
theorem exec_seq {ds : List DOper} {B : List Nat} {K : Env → AH → Prop} (hq : ∀ (j : Nat) d, ds[j]? = some d → d.o.op.quiet = true ∧ ∀ p ∈ d.pre, p < j) : ∀ (m i : Nat) (T : List (Nat × Held)) (done : List Nat) (e : Env) (H : AH), i + m = ds.length → (∀ j, done.contains j = decide (j < i)) →
    runOps P R ((ds.drop i).map DOper.o) K e H → execD P R ds B K m T done e H := by
  intro m
  induction m with
  | zero =>
    intro i T done e H hi hd hr
    rw [List.drop_of_length_le (by omega)] at hr
    refine ⟨?_, hr⟩
    unfold readyA
    rw [List.filter_eq_nil_iff]
    intro j hj
    simp at hj
    rw [hd j]
    simp; omega
  | succ m ih =>
    intro i T done e H hi hd hr
    have hlt : i < ds.length := by omega
    have hdi : ds[i]? = some ds[i] := List.getElem?_eq_getElem hlt
    obtain ⟨hqi, hpi⟩ := hq i _ hdi
    rw [List.drop_eq_getElem_cons hlt, List.map_cons] at hr
    have hd' : ∀ j, (i :: done).contains j = decide (j < i + 1) := by
      intro j
      rw [List.contains_cons, hd j]
      by_cases h1 : j = i
      · subst h1; simp
      · have : (j == i) = false := by simp [h1]
        rw [this, Bool.false_or]
        congr 1
        apply propext; omega
    have hw : wantedA ds[i].o e = some true ∨ wantedA ds[i].o e = some false := by
      simp only [runOps] at hr
      split at hr
      · exact .inl ‹_›
      · exact .inr ‹_›
      · exact hr.elim
    have hfirst : firstQ ds done e = some i := by
      unfold firstQ readyA
      rw [List.find?_filter]
      rw [List.find?_range_eq_some]
      refine ⟨?_, by simpa using hlt, fun j hj => ?_⟩
      · rw [hd i, hdi]
        have h1 : (ds[i].pre.all done.contains) = true := by
          rw [List.all_eq_true]
          intro p hp
          rw [hd p]; simpa using hpi p hp
        rcases hw with hw | hw
        · simp [hw, hqi, h1]
        · simp [hw, h1]
      · rw [hd j]; simp [hj]
    simp only [execD, hfirst, hdi]
    rcases hw with hw | hw
    · rw [hw]
      simp only [runOps, hw] at hr
      unfold stepOp at hr
      split at hr
      · rename_i h0; rw [h0] at hqi; cases hqi
      · rename_i h0; rw [h0] at hqi; cases hqi
      · split at hr
        · rename_i v H' hev
          have := quiet_same hqi hev
          subst this
          dsimp only
          rw [hev]
          exact ih (i + 1) _ _ _ _ (by omega) hd' hr
        · exact hr.elim
    · rw [hw]
      simp only [runOps, hw] at hr
      exact ih (i + 1) _ _ _ _ (by omega) hd' hr
theorem exK_ok {ex : Exit} {a : Bool} {b : Exit → Bool} (h : exK ex a b = true) : (ex = .normal ∧ a = true) ∨ (ex ≠ .normal ∧ b ex = true) := by
  cases ex <;> first | exact .inl ⟨rfl, h⟩ | exact .inr ⟨(fun h => by cases h), h⟩
def GoodCode (P : Program) (R : Ro) (m : M) : Prop := ∀ ac nt e h n k H, Sim h n H → codeF P R m ac e h n k = true → AWp P R nt ac (PostT k) (envT e) H
theorem codeF_ok (hmix : P.follows .mixedOrders = true) (hm : GoodCall P R m) (hl : ∀ a, (∀ nt e h n k H, Sim h n H → codeF P R m a e h n k = true → AWp P R nt a (PostT k) (envT e) H) → ∀ nt e h n k H, Sim h n H → codeF P R m (.loop a) e h n k = true → AWp P R nt (.loop a) (PostT k) (envT e) H) :
    GoodCode P R m := by
  intro ac
  induction ac with
  | skip => intro nt e h n k H s hk; exact AWp.skip ⟨e, h, n, rfl, s, hk⟩
  | ops l => intro nt e h n k H s hk; exact AWp.ops (opsF_ok (q := fun e h n => k .normal e h n) hm hk s)
  | draw l B =>
    intro nt e h n k H s hk
    have hk : Bool.casesOn (motive := fun _ => Bool) (seqOk l 0) (drawF P R m l B (fun e h n => k .normal e h n) l.length [] [] e h n) (opsF P R m (l.map DOper.o) e h n fun e h n => k .normal e h n) = true := hk
    cases hs : seqOk l 0 with
    | false => rw [hs] at hk; exact AWp.draw hmix (drawF_ok (q := fun e h n => k .normal e h n) hm _ [] [] hk s)
    | true =>
      rw [hs] at hk
      refine AWp.draw hmix (exec_seq (fun j d hd => by have := seqOk_ok hs j d hd; simpa using this) l.length 0 [] [] _ _ (by omega) (fun j => by simp) ?_)
      exact opsF_ok (q := fun e h n => k .normal e h n) hm hk s
  | seq a b iha ihb =>
    intro nt e h n k H s hk
    refine AWp.seq ((iha nt e h n _ H s hk).mono ?_)
    rintro ex e1 H1 ⟨e', h', n', rfl, s', hk'⟩
    rcases exK_ok hk' with ⟨rfl, hk'⟩ | ⟨hne, hk'⟩
    · exact ihb nt e' h' n' k H1 s' hk'
    · cases ex <;> first | exact absurd rfl hne | exact ⟨e', h', n', rfl, s', hk'⟩
  | cond c a b iha ihb =>
    intro nt e h n k H s hk
    obtain ⟨t, ht, hk⟩ := isBool_ok (show isBool (xF e c) (fun t => Bool.casesOn (motive := fun _ => Bool) t (codeF P R m b e h n k) (codeF P R m a e h n k)) false = true from hk)
    cases t with
    | false => exact AWp.cond (t := false) (by rw [xF_eq, ht]) (fun h0 => by cases h0) (fun _ => ihb nt e h n k H s hk)
    | true => exact AWp.cond (t := true) (by rw [xF_eq, ht]) (fun _ => iha nt e h n k H s hk) (fun h0 => by cases h0)
  | block id a iha =>
    intro nt e h n k H s hk
    refine AWp.block ((iha nt e h n _ H s hk).mono ?_)
    rintro ex e1 H1 ⟨e', h', n', rfl, s', hk'⟩
    cases ex with
    | exit id' =>
      simp only [QBlock]
      have hk' : Bool.casesOn (motive := fun _ => Bool) (Nat.beq id' id) (k (.exit id') e' h' n') (k .normal e' h' n') = true := hk'
      cases hb : Nat.beq id' id with
      | false =>
        rw [hb] at hk'
        rw [if_neg (by intro h0; rw [h0] at hb; simp at hb)]
        exact ⟨e', h', n', rfl, s', hk'⟩
      | true =>
        rw [hb] at hk'
        rw [if_pos (Nat.eq_of_beq_eq_true hb)]
        exact ⟨e', h', n', rfl, s', hk'⟩
    | _ => exact ⟨e', h', n', rfl, s', hk'⟩
  | loop a iha => exact hl a iha
  | exit id => intro nt e h n k H s hk; exact AWp.exit ⟨e, h, n, rfl, s, hk⟩
  | ret => intro nt e h n k H s hk; exact AWp.ret ⟨e, h, n, rfl, s, hk⟩
  | rangeF g ps a b iha ihb => intro nt e h n k H s hk; cases hk
  | bad => intro nt e h n k H s hk; cases hk
theorem argsE_ok : ∀ (as : List AV) (i : Nat) (e : ET) (q : ET → Bool), argsE as i e q = true → ∃ e', (∀ t, gE e' t = if i ≤ t ∧ t < i + as.length then as.getD (t - i) AV.undef else gE e t) ∧ q e' = true
  | [], i, e, q, h => ⟨e, fun t => by rw [if_neg (by simp)], h⟩
  | v :: as, i, e, q, h => by
    have h : BT.setK AV.undef e i v (fun e => fN (Nat.succ i) fun i => argsE as i e q) = true := h
    rw [BT.setK_eq, fN_eq] at h
    obtain ⟨e', h1, h2⟩ := argsE_ok as (i + 1) _ q h
    refine ⟨e', fun t => ?_, h2⟩
    rw [h1 t]
    unfold gE
    rw [BT.get_set]
    by_cases ht : t = i
    · subst ht; rw [if_neg (by omega), if_pos rfl, if_pos (by simp)]; simp
    · rw [if_neg ht]
      by_cases h3 : i + 1 ≤ t ∧ t < i + 1 + as.length
      · rw [if_pos h3, if_pos (by simp; omega)]
        rw [show t - i = (t - (i + 1)) + 1 from by omega]
        simp
      · rw [if_neg h3, if_neg (by simp; omega)]
theorem res1K_ok {e : ET} {h : HT} {n : Nat} {H : AH} (s : Sim h n H) {r : RX} {q : AV → Bool} (hk : res1K e h r q = true) : ∃ v, resE1 R (envT e) H r = some v ∧ q v = true := by
  cases r with
  | tmp t =>
    have hk : hd (gE e t) q = true := hk
    rw [hd_eq] at hk
    exact ⟨_, rfl, hk⟩
  | cell t z =>
    obtain ⟨l, o, hx, hk⟩ := isPtr_ok (show isPtr (gE e t) _ false = true from hk)
    have hx : envT e t = .ptr l o := hx
    rcases isMu_ok hk with ⟨i, hl0, hk1⟩ | ⟨b, hl0, hk1⟩
    · subst hl0
      have hk := hk1
      obtain ⟨c, hc, hl, hk⟩ := withK_ok hk
      obtain ⟨hi, hg⟩ := s.at rfl hl
      cases z with
      | none =>
        obtain ⟨v, hv, hk⟩ := nthK_ok hk
        exact ⟨v, by simp [resE1, hx, read1, hg, hc, hv], hk⟩
      | some z =>
        obtain ⟨h1, hk⟩ := dropK_ok hk
        obtain ⟨h2, hk⟩ := takeK_ok hk
        have h3 : o + z ≤ c.length := by simp at h2; omega
        exact ⟨_, by simp [resE1, hx, readN, hg, hc, h3], hk⟩
    · subst hl0
      have hk := hk1
      cases hk
theorem resK_ok {e : ET} {h : HT} {n : Nat} {H : AH} (s : Sim h n H) : ∀ {rs : List RX} {q : List AV → Bool}, resK e h rs q = true → ∃ vs, resE R (envT e) H rs = some vs ∧ q vs = true
  | [], q, hk => ⟨[], rfl, hk⟩
  | r :: rs, q, hk => by
    obtain ⟨v, h1, hk⟩ := res1K_ok (R := R) s (show res1K e h r (fun v => resK e h rs fun vs => q (v :: vs)) = true from hk)
    obtain ⟨vs, h2, hk⟩ := resK_ok s hk
    exact ⟨v :: vs, by simp [resE, h1, h2], hk⟩
theorem resVK_eq (vs : List AV) (q : AV → Bool) : resVK vs q = q (resV vs) := by
  match vs with
  | [] => rfl
  | [v] => rfl
  | v :: w :: r => rfl
theorem callF_ok (htab : ∀ f af, tab f = some af → FnOk P f af) (hctr : ∀ f g, ctr f = some g → CtrOk P R f g) (hm : GoodCall P R m) (hc : ∀ ac nt e h n k H, Sim h n H → m.code ac e h n k = true → AWp P R nt ac (PostT k) (envT e) H) {f : FuncId} {args : List AV} {h : HT} {n : Nat} {k : AV → HT → Nat → Bool}
    (hk : callF tab ctr m f args h n k = true) {H : AH} (s : Sim h n H) : ACalls P R f args H (PostC k) := by
  unfold callF at hk
  split at hk
  · rename_i af haf
    obtain ⟨h1, hk⟩ := chk_ok hk
    have h1 := Nat.le_of_ble_eq_true h1
    rw [lenK_eq] at h1
    obtain ⟨e, he, hk⟩ := argsE_ok _ _ _ _ hk
    refine ACalls.of_body (htab f af haf) h1 ?_
    have henv : env0 args = envT e := by
      funext t
      have := he t
      simp only [Nat.zero_le, true_and, Nat.zero_add, Nat.sub_zero] at this
      show args.getD t AV.undef = gE e t
      rw [this]
      split
      · rfl
      · rename_i hlt
        simp [Nat.le_of_not_lt hlt]; rfl
    rw [henv]
    refine (hc _ _ _ _ _ _ _ s hk).mono ?_
    rintro ex e1 H1 ⟨e', h', n', rfl, s', hk'⟩
    cases ex <;> first
      | (obtain ⟨vs, h2, hk'⟩ := resK_ok (R := R) s' hk'
         rw [resVK_eq] at hk'
         simp only [QRet, h2]
         exact ⟨h', n', s', hk'⟩)
      | cases hk'
  · split at hk
    · rename_i g hg
      exact hctr f g hg m hm hc _ _ _ _ _ s hk
    · cases hk
theorem run_ok (hmix : P.follows .mixedOrders = true) (htab : ∀ f af, tab f = some af → FnOk P f af) (hctr : ∀ f g, ctr f = some g → CtrOk P R f g) :
    ∀ j, GoodCode P R (runM P R tab ctr j) ∧ GoodCall P R (runM P R tab ctr j) := by
  intro j
  induction j using Nat.strongRecOn with
  | _ j ih =>
  have hcall : GoodCall P R (runM P R tab ctr j) := by
    intro f args h n k H s hk
    cases j with
    | zero => cases hk
    | succ i =>
      refine callF_ok htab hctr (ih i (by omega)).2 ?_ (show callF tab ctr (runM P R tab ctr i) f args h n k = true from hk) s
      intro ac nt e h n k H s hk
      cases i with
      | zero => cases hk
      | succ i => exact (ih i (by omega)).1 ac nt e h n k H s hk
  refine ⟨codeF_ok hmix hcall ?_, hcall⟩
  intro a iha nt e h n k H s hk
  refine AWp.loop_ind (fun i e H => i ≤ j ∧ ∃ e' h n, e = envT e' ∧ Sim h n H ∧ codeF P R (runM P R tab ctr i) (.loop a) e' h n k = true) (n := j) ⟨Nat.le_refl _, e, h, n, rfl, s, hk⟩ ?_
  rintro i e1 H1 ⟨hij, e', h', n', rfl, s', hk'⟩
  have hbody : ∀ nt e h n k H, Sim h n H → codeF P R (runM P R tab ctr i) a e h n k = true → AWp P R nt a (PostT k) (envT e) H := by
    by_cases he : i = j
    · subst he; exact iha
    · exact (ih i (by omega)).1 a
  refine (hbody nt e' h' n' _ H1 s' (show codeF P R (runM P R tab ctr i) a e' h' n' (fun ex e h n => exK ex ((runM P R tab ctr i).code (.loop a) e h n k) fun ex => k ex e h n) = true from hk')).mono ?_
  rintro ex e2 H2 ⟨e3, h3, n3, rfl, s3, hk3⟩
  rcases exK_ok hk3 with ⟨rfl, hk3⟩ | ⟨hne, hk3⟩
  · cases i with
    | zero => cases hk3
    | succ i => exact ⟨i, Nat.lt_succ_self i, by omega, e3, h3, n3, rfl, s3, hk3⟩
  · cases ex <;> first | exact absurd rfl hne | exact ⟨e3, h3, n3, rfl, s3, hk3⟩
def goTrue (v : AV) (_ : HT) (_ : Nat) : Bool := isBool v (fun b => b) false
/-- A call without arguments that is run to true. -/
def evGo (P : Program) (R : Ro) (tab : FuncId → Option AFn) (ctr : FuncId → Option Ctr) (j f : Nat) : Bool := (runM P R tab ctr j).call f [] .nil 0 goTrue
theorem evGo_ok (hmix : P.follows .mixedOrders = true) (htab : ∀ f af, tab f = some af → FnOk P f af) (hctr : ∀ f g, ctr f = some g → CtrOk P R f g) {j f : Nat} (h : evGo P R tab ctr j f = true) : ACalls P R f [] [] fun v _ => v = .bool true := by
  refine ((run_ok hmix htab hctr j).2 f [] .nil 0 goTrue [] sim_nil h).mono ?_
  rintro v H ⟨h', n', _, hv⟩
  obtain ⟨b, rfl, hb⟩ := isBool_ok hv
  rw [hb]
end
end
def noCtr : FuncId → Option Ctr := fun _ => none
theorem noCtr_ok {P : Program} {R : Ro} : ∀ f g, noCtr f = some g → CtrOk P R f g := fun f g h => by cases h
end Am
