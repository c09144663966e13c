/- The rules: what the abstract machine's steps say of the model's. -/
import Derived.Test.YtbcfhiohdamcjaaAmS9
import Derived.Test.YtbcfhiohdamcjaaAmX
set_option linter.unusedSimpArgs false
set_option linter.unusedVariables false
set_option linter.unusedSectionVars false
set_option linter.unnecessarySimpa false
namespace Am
open Go Go.RowKit

/-! ### Code as the abstract machine reads it -/
structure DOper where
  o : AOper
  pre : List Nat

inductive AC where
  | skip
  | ops (l : List AOper)
  /-- a region that draws its order: its operations, what each waits for (by any road: bits) -/
  | draw (l : List DOper) (B : List Nat)
  | seq (a b : AC)
  | cond (c : X) (a b : AC)
  | block (id : Nat) (a : AC)
  | loop (a : AC)
  | exit (id : Nat)
  | ret
  /-- a range over a function -/
  | rangeF (g : X) (ps : List Nat) (a b : AC)
  /-- what is not read -/
  | bad

section
variable (P : Program)

def guardC (ops : Array Oper) (nt : Nat) : Option (Nat × Bool) → Option (Option (Nat × Bool))
  | none => some none
  | some (j, b) => match (ops[j]?).bind (·.dst) with
    | some t => if t < nt then some (some (t, b)) else none
    | none => none

def dstC (nt : Nat) : Option Tmp → Bool
  | none => true
  | some t => t < nt

def operC (ops : Array Oper) (nt : Nat) (o : Oper) : Option AOper :=
  match guardC ops nt o.guard with
  | some g => if dstC nt o.dst then some ⟨o.dst, g, (compOp P o.op).getD .bad⟩ else none
  | none => none

def opersC (ops : Array Oper) (nt : Nat) : List Oper → Option (List AOper)
  | [] => some []
  | o :: os => match operC P ops nt o, opersC ops nt os with
    | some a, some l => some (a :: l)
    | _, _ => none

def preC (o : Oper) : List Nat := (o.after.toList.filter fun e => Region.binds .any e).map (·.on)

/-- The bits of an operation: what it waits for, by any road. -/
def bitsC (B : List Nat) (pre : List Nat) : Nat := pre.foldl (fun s k => s ||| 2 ^ k ||| B.getD k 0) 0

def allBits : List Oper → List Nat → List Nat
  | [], B => B
  | o :: os, B => allBits os (B ++ [bitsC B (preC o)])

def boundPre (ops : Array Oper) : Bool := ops.toList.zipIdx.all fun (o, i) => (preC o).all fun k => decide (k < i)

/-- Operations that may come up in either order do not touch one another's temporaries. -/
def freeC (ops : Array Oper) (B : List Nat) : Bool :=
  ops.toList.zipIdx.all fun (x, i) => ops.toList.zipIdx.all fun (y, j) => i == j || (preC y).contains i || (B.getD i 0).testBit j || Oper.apart ops x y

def drawOk (ops : Array Oper) (B : List Nat) : Bool := boundPre ops && Region.noSelect ops && freeC ops B

def drawC (ops : Array Oper) (nt : Nat) : Option AC :=
  let B := allBits ops.toList []
  match opersC P ops nt ops.toList with
  | some l => if drawOk ops B then some (.draw ((l.zip ops.toList).map fun x => ⟨x.1, preC x.2⟩) B) else none
  | none => none

def compC (nt : Nat) : Code → Option AC
  | .skip => some .skip
  | .region _ ops false => (opersC P ops nt ops.toList).map .ops
  | .region _ ops true => some ((drawC P ops nt).getD .bad)
  | .seq a b => match compC nt a, compC nt b with
    | some a, some b => some (.seq a b)
    | _, _ => none
  | .cond c a b => match cx c, compC nt a, compC nt b with
    | some c, some a, some b => some (.cond c a b)
    | _, _, _ => none
  | .block id a => (compC nt a).map (.block id)
  | .loop a => (compC nt a).map .loop
  | .exit id => some (.exit id)
  | .ret => some .ret
  | .rangeFunc g ps a b => match cx g, compC nt a, compC nt b with
    | some g, some a, some b => if ps.toList.all (fun p => decide (p < nt)) then some (.rangeF g ps.toList a b) else some .bad
    | _, _, _ => some .bad
  | _ => some .bad
end

/-! ### States -/
structure St (base : World) (ρ : Ren) (env : Env) (H : AH) (a : Act) (w : World) (nt : Nat) : Prop where
  rel : Rel base ρ H w
  size : a.tmps.size = nt
  val : ∀ t, ren ρ (env t) = some (a.tmps.getD t Go.undef)
  defers : a.defers = []

theorem St.ev {base : World} {ρ : Ren} {env : Env} {H : AH} {a : Act} {w : World} {nt : Nat} (h : St base ρ env H a w nt) : EvOk ρ env a.eval :=
  ⟨h.val, fun _ => rfl, fun _ => rfl, fun _ => rfl⟩

theorem St.put {base : World} {ρ ρ' : Ren} {env : Env} {H H' : AH} {a : Act} {w w' : World} {nt : Nat} (h : St base ρ env H a w nt) (hr : Rel base ρ' H' w') (he : Ext ρ ρ') {d : Option Tmp} (hd : dstC nt d = true) {v : AV} {x : Value} (hx : ren ρ' v = some x) :
    St base ρ' (env.put d v) H' (a.put d x) w' nt := by
  cases d with
  | none => exact ⟨hr, h.size, fun t => ren_ext he (h.val t), h.defers⟩
  | some t =>
    refine ⟨hr, by simp [Act.put, h.size], fun s => ?_, h.defers⟩
    have ht : t < a.tmps.size := by rw [h.size]; simpa [dstC] using hd
    simp only [Env.put, Env.upd, Act.put]
    by_cases hst : s = t
    · subst hst
      simp [ht, hx]
    · rw [if_neg hst]
      have := ren_ext he (h.val s)
      rw [this]
      congr 1
      simp [Ne.symm hst]

theorem St.ext {base : World} {ρ : Ren} {env : Env} {H : AH} {a : Act} {w : World} {nt : Nat} (h : St base ρ env H a w nt) (n : Nat) : St base ρ env H a { w with drawn := n } nt :=
  ⟨h.rel.draw n, h.size, h.val, h.defers⟩

/-- What must hold where the code has ended: no panic. -/
def AQ (Q : Exit → Env → AH → Prop) (base : World) (ρ : Ren) (nt : Nat) : Exit → Act → World → Prop := fun ex a w =>
  match ex with
  | .panic _ => False
  | .outgrown => False
  | .goto _ => False
  | ex => ∃ ρ' env H, Ext ρ ρ' ∧ St base ρ' env H a w nt ∧ Q ex env H

theorem AQ.ext {Q : Exit → Env → AH → Prop} {base : World} {ρ ρ' : Ren} {nt : Nat} {ex : Exit} {a : Act} {w : World} (he : Ext ρ ρ') (h : AQ Q base ρ' nt ex a w) : AQ Q base ρ nt ex a w := by
  cases ex <;> simp only [AQ] at h ⊢ <;> (obtain ⟨r, env, H, h1, h2⟩ := h; exact ⟨r, env, H, he.trans h1, h2⟩)

def AWp (P : Program) (R : Ro) (nt : Nat) (ac : AC) (Q : Exit → Env → AH → Prop) (env : Env) (H : AH) : Prop :=
  ∀ c, compC P nt c = some ac → ∀ base, ROk R base → ∀ ρ a w, St base ρ env H a w nt → c.wp P (AQ Q base ρ nt) a w

def ACalls (P : Program) (R : Ro) (f : FuncId) (args : List AV) (H : AH) (Q : AV → AH → Prop) : Prop :=
  ∀ base, ROk R base → ∀ ρ w Vs, Rel base ρ H w → renL ρ args = some Vs →
    Calls P f Vs.toArray w fun e w' => ∃ v V ρ' H', e = .returned V ∧ Ext ρ ρ' ∧ Rel base ρ' H' w' ∧ ren ρ' v = some V ∧ Q v H'

section
variable {P : Program} {R : Ro} {nt : Nat} {Q Q' : Exit → Env → AH → Prop} {env : Env} {H : AH}

theorem ACalls.mono {f : FuncId} {args : List AV} {K K' : AV → AH → Prop} (h : ACalls P R f args H K) (hk : ∀ v H', K v H' → K' v H') : ACalls P R f args H K' :=
  fun base hR ρ w Vs hrel hV => (h base hR ρ w Vs hrel hV).mono fun _ _ ⟨v, V, ρ', H', h1, h2, h3, h4, h5⟩ => ⟨v, V, ρ', H', h1, h2, h3, h4, hk _ _ h5⟩

theorem AWp.mono {ac : AC} (h : AWp P R nt ac Q env H) (hq : ∀ ex e H, Q ex e H → Q' ex e H) : AWp P R nt ac Q' env H :=
  fun c hc base hR ρ a w hs => wp_mono (h c hc base hR ρ a w hs) fun ex a w hh => by
    cases ex <;> simp only [AQ] at hh ⊢ <;> (obtain ⟨r, env, H, h1, h2, h3⟩ := hh; exact ⟨r, env, H, h1, h2, hq _ _ _ h3⟩)


/-- Which code is read as which. -/
theorem compC_inv {c : Code} {ac : AC} (h : compC P nt c = some ac) : match ac with
    | .skip => c = .skip
    | .ops l => ∃ id ops, c = .region id ops false ∧ opersC P ops nt ops.toList = some l
    | .draw l B => ∃ id ops, c = .region id ops true ∧ drawC P ops nt = some (.draw l B)
    | .seq x y => ∃ a b, c = .seq a b ∧ compC P nt a = some x ∧ compC P nt b = some y
    | .cond t x y => ∃ o a b, c = .cond o a b ∧ cx o = some t ∧ compC P nt a = some x ∧ compC P nt b = some y
    | .block id x => ∃ a, c = .block id a ∧ compC P nt a = some x
    | .loop x => ∃ a, c = .loop a ∧ compC P nt a = some x
    | .exit id => c = .exit id
    | .ret => c = .ret
    | .rangeF g ps x y => ∃ o pa a b, c = .rangeFunc o pa a b ∧ cx o = some g ∧ pa.toList = ps ∧ compC P nt a = some x ∧ compC P nt b = some y ∧ ps.all (fun p => decide (p < nt)) = true
    | .bad => True := by
  cases c with
  | skip => simp only [compC] at h; cases h; rfl
  | region id ops d =>
    cases d with
    | false =>
      simp only [compC, Option.map_eq_some_iff] at h
      obtain ⟨l, hl, rfl⟩ := h
      exact ⟨id, ops, rfl, hl⟩
    | true =>
      simp only [compC, Option.some.injEq] at h
      cases hd : drawC P ops nt with
      | none => rw [hd] at h; simp at h; subst h; trivial
      | some x =>
        rw [hd] at h
        simp at h
        subst h
        have h' := hd
        unfold drawC at h'
        dsimp only at h'
        split at h'
        · split at h'
          · cases h'; exact ⟨id, ops, rfl, hd⟩
          · cases h'
        · cases h'
  | seq a b =>
    simp only [compC] at h
    split at h
    · cases h; exact ⟨a, b, rfl, ‹_›, ‹_›⟩
    · cases h
  | cond o a b =>
    simp only [compC] at h
    split at h
    · cases h; exact ⟨o, a, b, rfl, ‹_›, ‹_›, ‹_›⟩
    · cases h
  | block id a =>
    simp only [compC, Option.map_eq_some_iff] at h
    obtain ⟨x, hx, rfl⟩ := h
    exact ⟨a, rfl, hx⟩
  | loop a =>
    simp only [compC, Option.map_eq_some_iff] at h
    obtain ⟨x, hx, rfl⟩ := h
    exact ⟨a, rfl, hx⟩
  | rangeFunc f p x y =>
    simp only [compC] at h
    split at h
    · split at h
      · cases h; exact ⟨f, p, x, y, rfl, ‹_›, rfl, ‹_›, ‹_›, ‹_›⟩
      · cases h; trivial
    · cases h; trivial
  | exit id => simp only [compC] at h; cases h; rfl
  | scope a => simp only [compC] at h; cases h; trivial
  | label l => simp only [compC] at h; cases h; trivial
  | goto l => simp only [compC] at h; cases h; trivial
  | ret => simp only [compC] at h; cases h; rfl
  | refuse s => simp only [compC] at h; cases h; trivial

theorem AWp.skip (h : Q .normal env H) : AWp P R nt .skip Q env H := by
  intro c hc base hR ρ a w hs
  have e0 : c = .skip := compC_inv hc
  subst e0
  exact wp_skip ⟨ρ, env, H, Ext.refl _, hs, h⟩

theorem AWp.exit {id : Nat} (h : Q (.exit id) env H) : AWp P R nt (.exit id) Q env H := by
  intro c hc base hR ρ a w hs
  have e0 : c = .exit id := compC_inv hc
  subst e0
  exact wp_exit ⟨ρ, env, H, Ext.refl _, hs, h⟩

theorem AWp.ret (h : Q .ret env H) : AWp P R nt .ret Q env H := by
  intro c hc base hR ρ a w hs
  have e0 : c = .ret := compC_inv hc
  subst e0
  exact wp_ret ⟨ρ, env, H, Ext.refl _, hs, h⟩

/-- What follows if the first part has come to its end. -/
def QThen (K : Env → AH → Prop) (Q : Exit → Env → AH → Prop) : Exit → Env → AH → Prop
  | .normal, e, H => K e H
  | ex, e, H => Q ex e H

theorem AWp.seq {x y : AC} (h : AWp P R nt x (QThen (AWp P R nt y Q) Q) env H) : AWp P R nt (.seq x y) Q env H := by
  intro c hc base hR ρ a w hs
  obtain ⟨a', b', rfl, ha, hb⟩ := compC_inv hc
  refine wp_seq (wp_mono (h a' ha base hR ρ a w hs) fun ex a1 w1 hh => ?_)
  cases ex with
  | normal =>
    simp only [AQ, QThen, Exit.then] at hh ⊢
    obtain ⟨ρ1, e1, H1, hx, hs1, hk⟩ := hh
    exact wp_mono (hk b' hb base hR ρ1 a1 w1 hs1) fun ex a2 w2 h2 => h2.ext hx
  | exit id => exact hh
  | goto l => exact hh
  | ret => exact hh
  | panic ch => exact hh
  | outgrown => exact hh

theorem AWp.cond {x : X} {a b : AC} {t : Bool} (hx : x.ev env = .bool t) (ht : t = true → AWp P R nt a Q env H) (hf : t = false → AWp P R nt b Q env H) : AWp P R nt (.cond x a b) Q env H := by
  intro c hc base hR ρ ac w hs
  obtain ⟨o, a', b', rfl, ho, ha, hb⟩ := compC_inv hc
  have h1 := cx_ok hs.ev ho
  rw [hx] at h1
  have h1 := ren_bool h1
  cases t with
  | true => exact wp_cond h1 (ht rfl a' ha base hR ρ ac w hs)
  | false => exact wp_cond h1 (hf rfl b' hb base hR ρ ac w hs)

def QBlock (id : Nat) (Q : Exit → Env → AH → Prop) : Exit → Env → AH → Prop
  | .exit id', e, H => if id' = id then Q .normal e H else Q (.exit id') e H
  | ex, e, H => Q ex e H

theorem AWp.block {id : Nat} {x : AC} (h : AWp P R nt x (QBlock id Q) env H) : AWp P R nt (.block id x) Q env H := by
  intro c hc base hR ρ a w hs
  obtain ⟨a', rfl, ha⟩ := compC_inv hc
  refine wp_block (wp_mono (h a' ha base hR ρ a w hs) fun ex a1 w1 hh => ?_)
  cases ex with
  | exit id' =>
    simp only [AQ, QBlock, Exit.inBlock] at hh ⊢
    obtain ⟨ρ1, e1, H1, hx, hs1, hk⟩ := hh
    by_cases hid : id' = id
    · rw [if_pos hid] at hk ⊢; exact ⟨ρ1, e1, H1, hx, hs1, hk⟩
    · rw [if_neg hid] at hk ⊢; exact ⟨ρ1, e1, H1, hx, hs1, hk⟩
  | normal => exact hh
  | goto l => exact hh
  | ret => exact hh
  | panic ch => exact hh
  | outgrown => exact hh

theorem wp_loop_ind {c : Code} {Q : Exit → Act → World → Prop} {a : Act} {w : World} (I : Nat → Act → World → Prop) {n : Nat} (h0 : I n a w)
    (round : ∀ n a w, I n a w → c.wp P (Exit.then (fun a' w' => ∃ m, m < n ∧ I m a' w') Q) a w) : (Code.loop c).wp P Q a w := by
  intro b k cs
  have key : ∀ n a w, I n a w → ∃ e a' w', Q e a' w' ∧ Arrives P (lone (b.at a (.code c :: .inLoop c :: k)) cs w) b k cs e a' w' := by
    intro n
    induction n using Nat.strongRecOn with
    | _ n ih =>
      intro a w hI
      obtain ⟨e, a₁, w₁, hq, harr⟩ := round n a w hI b (.inLoop c :: k) cs
      cases e with
      | normal =>
        obtain ⟨m, hlt, hI₁⟩ := hq
        obtain ⟨e₂, a₂, w₂, hq₂, harr₂⟩ := ih m hlt a₁ w₁ hI₁
        exact ⟨e₂, a₂, w₂, hq₂, .of_steps (Steps.trans harr (.one step_inLoop)) harr₂⟩
      | exit id => exact ⟨_, a₁, w₁, hq, .pass (x := .inLoop c) rfl (fun _ _ => .inl (by simp)) harr⟩
      | goto l => exact ⟨_, a₁, w₁, hq, .pass (x := .inLoop c) rfl (fun _ _ => .inl (by simp)) harr⟩
      | ret => exact ⟨_, a₁, w₁, hq, .pass (x := .inLoop c) rfl (fun _ _ => .inl (by simp)) harr⟩
      | panic ch => exact ⟨_, a₁, w₁, hq, .pass (x := .inLoop c) rfl (fun _ _ => .inl (by simp)) harr⟩
      | outgrown => exact ⟨_, a₁, w₁, hq, .pass (x := .inLoop c) rfl (fun _ _ => .inl (by simp)) harr⟩
  obtain ⟨e, a', w', hq, harr⟩ := key n a w h0
  exact ⟨e, a', w', hq, .of_steps (.one step_loop) harr⟩

theorem AWp.loop_ind {x : AC} (I : Nat → Env → AH → Prop) {n : Nat} (h0 : I n env H)
    (hr : ∀ n e H, I n e H → AWp P R nt x (QThen (fun e' H' => ∃ m, m < n ∧ I m e' H') Q) e H) : AWp P R nt (.loop x) Q env H := by
  intro c hc base hR ρ a w hs
  obtain ⟨a', rfl, ha⟩ := compC_inv hc
  refine wp_loop_ind (fun n a w => ∃ ρ' e H, Ext ρ ρ' ∧ St base ρ' e H a w nt ∧ I n e H) (n := n) ⟨ρ, env, H, Ext.refl _, hs, h0⟩ ?_
  rintro n a1 w1 ⟨ρ1, e1, H1, hx1, hs1, hi1⟩
  refine wp_mono (hr n e1 H1 hi1 a' ha base hR ρ1 a1 w1 hs1) fun ex a2 w2 hh => ?_
  cases ex with
  | normal =>
    simp only [AQ, QThen, Exit.then] at hh ⊢
    obtain ⟨ρ2, e2, H2, hx2, hs2, m, hlt, hi2⟩ := hh
    exact ⟨m, hlt, ρ2, e2, H2, hx1.trans hx2, hs2, hi2⟩
  | exit id => exact hh.ext hx1
  | goto l => exact hh
  | ret => exact hh.ext hx1
  | panic ch => exact hh
  | outgrown => exact hh

theorem AWp.loop {x : AC} (I : Env → AH → Prop) (μ : Env → AH → Nat) (h0 : I env H)
    (hr : ∀ e H, I e H → AWp P R nt x (QThen (fun e' H' => I e' H' ∧ μ e' H' < μ e H) Q) e H) : AWp P R nt (.loop x) Q env H := by
  intro c hc base hR ρ a w hs
  obtain ⟨a', rfl, ha⟩ := compC_inv hc
  refine wp_loop_ind (fun n a w => ∃ ρ' e H, Ext ρ ρ' ∧ St base ρ' e H a w nt ∧ I e H ∧ μ e H = n) (n := μ env H) ⟨ρ, env, H, Ext.refl _, hs, h0, rfl⟩ ?_
  rintro n a1 w1 ⟨ρ1, e1, H1, hx1, hs1, hi1, hn1⟩
  refine wp_mono (hr e1 H1 hi1 a' ha base hR ρ1 a1 w1 hs1) fun ex a2 w2 hh => ?_
  cases ex with
  | normal =>
    simp only [AQ, QThen, Exit.then] at hh ⊢
    obtain ⟨ρ2, e2, H2, hx2, hs2, hi2, hlt⟩ := hh
    exact ⟨μ e2 H2, by omega, ρ2, e2, H2, hx1.trans hx2, hs2, hi2, rfl⟩
  | exit id => exact hh.ext hx1
  | goto l => exact hh
  | ret => exact hh.ext hx1
  | panic ch => exact hh
  | outgrown => exact hh

/-! ### Operations one behind the other -/

/-- What an operation asks of what follows. -/
def stepOp (P : Program) (R : Ro) (o : AOper) (K : Env → AH → Prop) (e : Env) (H : AH) : Prop :=
  match o.op with
  | .call f xs => ACalls P R f (xs.map (X.ev e)) H fun v H' => K (e.put o.dst v) H'
  | .callv x xs => match fnArgs (x.ev e) (xs.map (X.ev e)) with
    | some (f, as) => bodied P f = true ∧ ACalls P R f as H fun v H' => K (e.put o.dst v) H'
    | none => False
  | op => match op.eval P R e H with
    | some (v, H') => K (e.put o.dst v) H'
    | none => False

/-- Whether an operation is wanted; none: it can't be told. -/
def wantedA (o : AOper) (e : Env) : Option Bool :=
  match o.guard with
  | none => some true
  | some (t, b) => match e t with
    | .bool c => some (c == b)
    | .tuple [] => some false
    | _ => none

def runOps (P : Program) (R : Ro) : List AOper → (Env → AH → Prop) → Env → AH → Prop
  | [], K, e, H => K e H
  | o :: os, K, e, H => match wantedA o e with
    | some true => stepOp P R o (runOps P R os K) e H
    | some false => runOps P R os K (e.put o.dst AV.undef) H
    | none => False

theorem operC_inv {ops : Array Oper} {o : Oper} {ao : AOper} (h : operC P ops nt o = some ao) : (ao.op = .bad ∨ compOp P o.op = some ao.op) ∧ guardC ops nt o.guard = some ao.guard ∧ dstC nt o.dst = true ∧ ao.dst = o.dst := by
  unfold operC at h
  split at h
  · split at h
    · cases h
      refine ⟨?_, ‹_›, ‹_›, rfl⟩
      cases hc : compOp P o.op with
      | none => exact .inl rfl
      | some x => exact .inr rfl
    · cases h
  · cases h

theorem op_of_eval {o : Oper} {op : AOp} (h : op = .bad ∨ compOp P o.op = some op) {e : Env} {H' : AH} {v : AV} (hev : op.eval P R e H = some (v, H')) : compOp P o.op = some op := by
  rcases h with rfl | h
  · simp [AOp.eval] at hev
  · exact h

theorem wanted_sound {base : World} {ρ : Ren} {a : Act} {w : World} {ops : Array Oper} {o : Oper} {ao : AOper} (hs : St base ρ env H a w nt) (h : operC P ops nt o = some ao) {b : Bool} (hb : wantedA ao env = some b) : Region.wanted o (yielded ops a.tmps) = b := by
  obtain ⟨_, hg, _, _⟩ := operC_inv h
  unfold wantedA at hb
  unfold Region.wanted
  cases hgo : o.guard with
  | none =>
    rw [hgo] at hg
    simp only [guardC, Option.some.injEq] at hg
    rw [← hg] at hb
    simp only [Option.some.injEq] at hb
    exact hb
  | some jb =>
    obtain ⟨j, want⟩ := jb
    rw [hgo] at hg
    simp only [guardC] at hg
    split at hg
    · rename_i t ht
      split at hg
      · rename_i hlt
        simp only [Option.some.injEq] at hg
        rw [← hg] at hb
        simp only at hb
        split at hb
        · rename_i c hc
          cases hb
          have hv := hs.val t
          rw [hc] at hv
          have hv := ren_bool hv
          have hsz : t < a.tmps.size := by rw [hs.size]; exact hlt
          simp only [yielded, ht, Option.bind_some]
          have : a.tmps[t]? = some (.bool c) := by
            rw [Array.getElem?_eq_getElem hsz]
            simp [hsz] at hv
            rw [hv]
          rw [this]
          simp
        · rename_i hc
          cases hb
          have hv := hs.val t
          rw [hc] at hv
          simp only [ren, renL, Option.map_some, Option.some.injEq] at hv
          have hsz : t < a.tmps.size := by rw [hs.size]; exact hlt
          simp only [yielded, ht, Option.bind_some]
          have : a.tmps[t]? = some (.tuple #[]) := by
            rw [Array.getElem?_eq_getElem hsz]
            simp [hsz] at hv
            rw [← hv]
          rw [this]
          simp
        · cases hb
      · cases hg
    · cases hg

/-- One operation. -/
theorem step_sound {base : World} (hR : ROk R base) {ρ : Ren} {a : Act} {w : World} {ops : Array Oper} {o : Oper} {ao : AOper} (hs : St base ρ env H a w nt) (h : operC P ops nt o = some ao) {K : Env → AH → Prop} (hk : stepOp P R ao K env H)
    {Q : Exit → Act → World → Prop} : o.wp P a w (fun a' w' => ∃ ρ' e' H', Ext ρ ρ' ∧ St base ρ' e' H' a' w' nt ∧ K e' H') Q := by
  obtain ⟨hc, _, hd, hdst⟩ := operC_inv h
  unfold Oper.wp
  unfold stepOp at hk
  split at hk
  · rename_i f xs hop
    rw [hop] at hc
    have hc := hc.resolve_left (by intro h0; cases h0)
    obtain ⟨args, h1, h2⟩ := call_sound (w := w) hs.ev hc
    rw [h2]
    simp only [Oper.upon]
    refine (hk base hR ρ w args hs.rel h1).mono ?_
    rintro e w' ⟨v, V, ρ', H', rfl, hx, hr, hv, hq⟩
    rw [hdst] at hq
    exact ⟨ρ', _, H', hx, hs.put hr hx hd hv, hq⟩
  · rename_i x xs hop
    rw [hop] at hc
    have hc := hc.resolve_left (by intro h0; cases h0)
    split at hk
    · rename_i f as hf
      obtain ⟨hb, hk⟩ := hk
      obtain ⟨args, h1, h2⟩ := callv_sound (w := w) hs.ev hc hf hb
      rw [h2]
      simp only [Oper.upon]
      refine (hk base hR ρ w args hs.rel h1).mono ?_
      rintro e w' ⟨v, V, ρ', H', rfl, hx, hr, hv, hq⟩
      rw [hdst] at hq
      exact ⟨ρ', _, H', hx, hs.put hr hx hd hv, hq⟩
    · exact hk.elim
  · split at hk
    · rename_i v H' hev
      obtain ⟨ρ', w', x, hrun, hx, hr, hv⟩ := (op_sound hR hs.rel hs.ev (op_of_eval hc hev) hev).1
      rw [hdst] at hk
      rcases hrun with hrun | ⟨hrun, rfl⟩
      · rw [hrun]; exact ⟨ρ', _, H', hx, hs.put hr hx hd hv, hk⟩
      · rw [hrun]; exact ⟨ρ', _, H', hx, hs.put hr hx hd hv, hk⟩
    · exact hk.elim

theorem opersC_get {ops : Array Oper} : ∀ {os : List Oper} {l : List AOper}, opersC P ops nt os = some l → ∀ (i : Nat) o, os[i]? = some o → ∃ ao, l[i]? = some ao ∧ operC P ops nt o = some ao
  | [], l, h, i, o, ho => by simp at ho
  | x :: os, l, h, i, o, ho => by
    simp only [opersC] at h
    split at h
    · rename_i a l' ha hl
      cases h
      cases i with
      | zero => simp at ho; subst ho; exact ⟨a, rfl, ha⟩
      | succ i => simp only [List.getElem?_cons_succ] at ho ⊢; exact opersC_get hl i o ho
    · cases h

theorem opersC_length {ops : Array Oper} : ∀ {os : List Oper} {l : List AOper}, opersC P ops nt os = some l → l.length = os.length
  | [], l, h => by simp only [opersC] at h; cases h; rfl
  | x :: os, l, h => by
    simp only [opersC] at h
    split at h
    · rename_i a l' ha hl; cases h; simp [opersC_length hl]
    · cases h

theorem runOps_sound {base : World} (hR : ROk R base) {ops : Array Oper} {l : List AOper} (hl : opersC P ops nt ops.toList = some l) {K : Env → AH → Prop} {Q : Exit → Act → World → Prop} {ρ0 : Ren} (hQ : ∀ ρ e H a w, Ext ρ0 ρ → St base ρ e H a w nt → K e H → Q .normal a w) :
    ∀ (n i : Nat), i + n = ops.size → ∀ (ρ : Ren) (env : Env) (H : AH) (a : Act) (w : World), Ext ρ0 ρ → St base ρ env H a w nt → runOps P R (l.drop i) K env H → wpOps P ops Q (List.range' i n) a w := by
  have hlen := opersC_length hl
  simp at hlen
  intro n
  induction n with
  | zero =>
    intro i hi ρ env H a w hx hs hk
    rw [List.drop_of_length_le (by omega)] at hk
    exact hQ ρ env H a w hx hs hk
  | succ n ih =>
    intro i hi ρ env H a w hx hs hk
    have hilt : i < ops.size := by omega
    have hoi : ops.toList[i]? = some ops[i] := by simp [hilt]
    obtain ⟨ao, hao, hc⟩ := opersC_get hl i _ hoi
    have hdrop : l.drop i = ao :: l.drop (i + 1) := by
      have hlt : i < l.length := by omega
      rw [List.drop_eq_getElem_cons hlt]
      congr 1
      rw [List.getElem?_eq_getElem hlt] at hao
      exact Option.some.inj hao
    rw [hdrop] at hk
    rw [List.range'_succ, wpOps_cons]
    unfold wpOp
    rw [Array.getElem?_eq_getElem hilt]
    dsimp only
    simp only [runOps] at hk
    split at hk
    · rename_i hw
      rw [if_pos (wanted_sound hs hc hw)]
      left
      refine Oper.wp_mono (fun a' w' hh => ?_) (step_sound (Q := Q) hR hs hc hk)
      obtain ⟨ρ', e', H', hx', hs', hk'⟩ := hh
      exact ih (i + 1) (by omega) ρ' e' H' a' w' (hx.trans hx') hs' hk'
    · rename_i hw
      rw [if_neg (by rw [wanted_sound hs hc hw]; simp)]
      obtain ⟨_, _, hd, hdst⟩ := operC_inv hc
      rw [hdst] at hk
      exact ih (i + 1) (by omega) ρ _ H _ w hx (hs.put hs.rel (Ext.refl _) hd rfl) hk
    · exact hk.elim

theorem AWp.ops {l : List AOper} (h : runOps P R l (fun e H => Q .normal e H) env H) : AWp P R nt (.ops l) Q env H := by
  intro c hc base hR ρ a w hs
  obtain ⟨id, ops, rfl, hl⟩ := compC_inv hc
  refine wp_region ?_
  rw [List.range_eq_range']
  exact runOps_sound hR hl (fun ρ' e' H' a' w' hx hs' hk => ⟨ρ', e', H', hx, hs', hk⟩) ops.size 0 (by omega) ρ env H a w (Ext.refl _) hs h

end
end Am
