/- A range over a function: the loop's record, its rounds, the function that holds it. -/
import Derived.Test.YtbcfhiohdamcjaaAmSym
import Derived.Test.YtbcfhiohdamcjaaAmArg
import Derived.Test.YtbcfhiohdamcjaaAmIns
import Derived.RangeFuncRecord
import Derived.OrdersIn
set_option linter.unusedSimpArgs false
set_option linter.unusedVariables false
set_option linter.unusedSectionVars false
set_option linter.unnecessarySimpa false
namespace Am
open Go Go.RowKit
set_option linter.unusedSimpArgs false
set_option linter.unusedVariables false
def wideR (ro : Option Nat) : Fence := { Fence.wide with round := ro }
theorem callsIn_wideR {ro : Option Nat} {n : Nat} {P : Program} {f : FuncId} {args : Array Value} {w : World} {R : Ending → World → Prop} : CallsIn (wideR ro) n P f args w R ↔ Calls P f args w R := callsIn_wide (n := n)
/-- The marks among the deferred calls, by the blocks' abstract numbers. -/
def marks (ρ : Ren) : List Nat → Option (List Deferred)
  | [] => some []
  | m :: ms => match ρ[m]?, marks ρ ms with
    | some p, some l => some ({ target := .collected p.blk, args := #[] } :: l)
    | _, _ => none
theorem marks_ext {ρ ρ' : Ren} (h : Ext ρ ρ') : ∀ {ms : List Nat} {l : List Deferred}, marks ρ ms = some l → marks ρ' ms = some l
  | [], l, hm => hm
  | m :: ms, l, hm => by
    simp only [marks] at hm ⊢
    split at hm
    · rename_i p l' h1 h2
      rw [h.get h1, marks_ext h h2]; exact hm
    · cases hm
def AQR (Q : Exit → List Nat → Env → AH → Prop) (base : World) (ρ : Ren) (nt : Nat) : Exit → Act → World → Prop := fun ex a w =>
  match ex with
  | .panic _ => False
  | .outgrown => False
  | .goto _ => False
  | ex => ∃ ρ' env H ms, Ext ρ ρ' ∧ St base ρ' env H { tmps := a.tmps, defers := [] } w nt ∧ marks ρ' ms = some a.defers ∧ Q ex ms env H
theorem AQR.ext {Q : Exit → List Nat → Env → AH → Prop} {base : World} {ρ ρ' : Ren} {nt : Nat} {ex : Exit} {a : Act} {w : World} (he : Ext ρ ρ') (h : AQR Q base ρ' nt ex a w) : AQR Q base ρ nt ex a w := by
  cases ex <;> simp only [AQR] at h ⊢ <;> (obtain ⟨r, env, H, ms, h1, h2⟩ := h; exact ⟨r, env, H, ms, he.trans h1, h2⟩)
/-- Code in a round's frame (or in a function that holds a range over a function). -/
def AWpR (P : Program) (R : Ro) (ro : Option Nat) (ms : List Nat) (nt : Nat) (ac : AC) (Q : Exit → List Nat → Env → AH → Prop) (env : Env) (H : AH) : Prop :=
  ∀ c, compC P nt c = some ac → ∀ base, ROk R base → ∀ ρ w tm ds, marks ρ ms = some ds → St base ρ env H { tmps := tm, defers := [] } w nt → c.wpIn (wideR ro) 0 P (AQR Q base ρ nt) { tmps := tm, defers := ds } w
/-- A call of yield. -/
def YCall (P : Program) (R : Ro) (l : Nat) (args : List AV) (H : AH) (Q : AV → AH → Prop) : Prop :=
  ∀ base, ROk R base → ∀ ρ w Vs, Rel base ρ H w → renL ρ args = some Vs → ∃ fn tmps assign body, (Instr.yield l Vs.toArray).run P w = .ok (.round l fn tmps assign body) w ∧
    RoundIn Fence.wide 0 P l fn tmps assign body w fun e w' => ∃ v V ρ' H', e = .returned V ∧ Ext ρ ρ' ∧ Rel base ρ' H' w' ∧ ren ρ' v = some V ∧ Q v H'
section
variable {P : Program} {R : Ro} {ro : Option Nat} {ms : List Nat} {nt : Nat} {Q Q' : Exit → List Nat → Env → AH → Prop} {env : Env} {H : AH}
theorem AWpR.mono {ac : AC} (h : AWpR P R ro ms nt ac Q env H) (hq : ∀ ex ms e H, Q ex ms e H → Q' ex ms e H) : AWpR P R ro ms nt ac Q' env H :=
  fun c hc base hR ρ w tm ds hd hs => wpIn_mono (h c hc base hR ρ w tm ds hd hs) fun ex a w hh => by
    cases ex <;> simp only [AQR] at hh ⊢ <;> (obtain ⟨r, env, H, ms, h1, h2, h3, h4⟩ := hh; exact ⟨r, env, H, ms, h1, h2, h3, hq _ _ _ _ h4⟩)
theorem AWpR.skip (h : Q .normal ms env H) : AWpR P R ro ms nt .skip Q env H := by
  intro c hc base hR ρ w tm ds hd hs
  have e0 : c = .skip := compC_inv hc
  subst e0
  exact wpIn_skip ⟨ρ, env, H, ms, Ext.refl _, hs, hd, h⟩
theorem AWpR.exit {id : Nat} (h : Q (.exit id) ms env H) : AWpR P R ro ms nt (.exit id) Q env H := by
  intro c hc base hR ρ w tm ds hd hs
  have e0 : c = .exit id := compC_inv hc
  subst e0
  exact wpIn_exit ⟨ρ, env, H, ms, Ext.refl _, hs, hd, h⟩
theorem AWpR.ret (h : Q .ret ms env H) : AWpR P R ro ms nt .ret Q env H := by
  intro c hc base hR ρ w tm ds hd hs
  have e0 : c = .ret := compC_inv hc
  subst e0
  exact wpIn_ret ⟨ρ, env, H, ms, Ext.refl _, hs, hd, h⟩
def QThenR (K : List Nat → Env → AH → Prop) (Q : Exit → List Nat → Env → AH → Prop) : Exit → List Nat → Env → AH → Prop
  | .normal, ms, e, H => K ms e H
  | ex, ms, e, H => Q ex ms e H
theorem AWpR.seq {x y : AC} (h : AWpR P R ro ms nt x (QThenR (fun ms => AWpR P R ro ms nt y Q) Q) env H) : AWpR P R ro ms nt (.seq x y) Q env H := by
  intro c hc base hR ρ w tm ds hd hs
  obtain ⟨a', b', rfl, ha, hb⟩ := compC_inv hc
  refine wpIn_seq (wpIn_mono (h a' ha base hR ρ w tm ds hd hs) fun ex a1 w1 hh => ?_)
  cases ex with
  | normal =>
    simp only [AQR, QThenR, Exit.then] at hh ⊢
    obtain ⟨ρ1, e1, H1, ms1, hx, hs1, hd1, hk⟩ := hh
    exact wpIn_mono (hk b' hb base hR ρ1 w1 a1.tmps a1.defers hd1 hs1) fun ex a2 w2 h2 => h2.ext hx
  | exit id => exact hh
  | goto l => exact hh
  | ret => exact hh
  | panic ch => exact hh
  | outgrown => exact hh
theorem AWpR.cond {x : X} {a b : AC} {t : Bool} (hx : x.ev env = .bool t) (ht : t = true → AWpR P R ro ms nt a Q env H) (hf : t = false → AWpR P R ro ms nt b Q env H) : AWpR P R ro ms nt (.cond x a b) Q env H := by
  intro c hc base hR ρ w tm ds hd hs
  obtain ⟨o, a', b', rfl, ho, ha, hb⟩ := compC_inv hc
  have h1 := cx_ok hs.ev ho
  rw [hx] at h1
  have h1 := ren_bool h1
  cases t with
  | true => exact wpIn_cond_true h1 (ht rfl a' ha base hR ρ w tm ds hd hs)
  | false => exact wpIn_cond_false h1 (hf rfl b' hb base hR ρ w tm ds hd hs)
def QBlockR (id : Nat) (Q : Exit → List Nat → Env → AH → Prop) : Exit → List Nat → Env → AH → Prop
  | .exit id', ms, e, H => if id' = id then Q .normal ms e H else Q (.exit id') ms e H
  | ex, ms, e, H => Q ex ms e H
theorem AWpR.block {id : Nat} {x : AC} (h : AWpR P R ro ms nt x (QBlockR id Q) env H) : AWpR P R ro ms nt (.block id x) Q env H := by
  intro c hc base hR ρ w tm ds hd hs
  obtain ⟨a', rfl, ha⟩ := compC_inv hc
  refine wpIn_block (wpIn_mono (h a' ha base hR ρ w tm ds hd hs) fun ex a1 w1 hh => ?_)
  cases ex with
  | exit id' =>
    simp only [AQR, QBlockR, Exit.inBlock] at hh ⊢
    obtain ⟨ρ1, e1, H1, ms1, hx, hs1, hd1, hk⟩ := hh
    by_cases hid : id' = id
    · rw [if_pos hid] at hk ⊢; exact ⟨ρ1, e1, H1, ms1, hx, hs1, hd1, hk⟩
    · rw [if_neg hid] at hk ⊢; exact ⟨ρ1, e1, H1, ms1, hx, hs1, hd1, hk⟩
  | normal => exact hh
  | goto l => exact hh
  | ret => exact hh
  | panic ch => exact hh
  | outgrown => exact hh
theorem wpIn_loop_ind {F : Fence} {m : Nat} {c : Code} {Q : Exit → Act → World → Prop} {a : Act} {w : World} (I : Nat → Act → World → Prop) {n : Nat} (h0 : I n a w)
    (round : ∀ n a w, I n a w → c.wpIn F m P (Exit.then (fun a' w' => ∃ m, m < n ∧ I m a' w') Q) a w) : (Code.loop c).wpIn F m P Q a w := by
  intro b k cs hro hb hr
  have key : ∀ n a w, I n a w → ∃ e a' w', Q e a' w' ∧ ArrivesIn (Machine.fenced P F) P (lone (b.atR a (.code c :: .inLoop c :: k)) cs w) b k cs e a' w' := by
    intro n
    induction n using Nat.strongRecOn with
    | _ n ih =>
      intro a w hI
      obtain ⟨e, a₁, w₁, hq, harr⟩ := round n a w hI b (.inLoop c :: k) cs hro hb hr
      cases e with
      | normal =>
        obtain ⟨m', hlt, hI₁⟩ := hq
        obtain ⟨e₂, a₂, w₂, hq₂, harr₂⟩ := ih m' hlt a₁ w₁ hI₁
        exact ⟨e₂, a₂, w₂, hq₂, .of_steps (StepsIn.trans harr (.one (fenced_calm hb hr rfl) stepR_inLoop)) harr₂⟩
      | exit id => exact ⟨_, a₁, w₁, hq, .pass (x := .inLoop c) rfl (fun _ _ => .inl (by simp)) harr⟩
      | goto l => exact ⟨_, a₁, w₁, hq, .pass (x := .inLoop c) rfl (fun _ _ => .inl (by simp)) harr⟩
      | ret => exact ⟨_, a₁, w₁, hq, .pass (x := .inLoop c) rfl (fun _ _ => .inl (by simp)) harr⟩
      | panic ch => exact ⟨_, a₁, w₁, hq, .pass (x := .inLoop c) rfl (fun _ _ => .inl (by simp)) harr⟩
      | outgrown => exact ⟨_, a₁, w₁, hq, .pass (x := .inLoop c) rfl (fun _ _ => .inl (by simp)) harr⟩
  obtain ⟨e, a', w', hq, harr⟩ := key n a w h0
  exact ⟨e, a', w', hq, .of_steps (.one (fenced_calm hb hr rfl) stepR_loop) harr⟩
theorem AWpR.loop_ind {x : AC} (I : Nat → List Nat → Env → AH → Prop) {n : Nat} (h0 : I n ms env H)
    (hr : ∀ n ms e H, I n ms e H → AWpR P R ro ms nt x (QThenR (fun ms' e' H' => ∃ m, m < n ∧ I m ms' e' H') Q) e H) : AWpR P R ro ms nt (.loop x) Q env H := by
  intro c hc base hR ρ w tm ds hd hs
  obtain ⟨a', rfl, ha⟩ := compC_inv hc
  refine wpIn_loop_ind (fun n a w => ∃ ρ' e H ms, Ext ρ ρ' ∧ St base ρ' e H { tmps := a.tmps, defers := [] } w nt ∧ marks ρ' ms = some a.defers ∧ I n ms e H) (n := n) ⟨ρ, env, H, ms, Ext.refl _, hs, hd, h0⟩ ?_
  rintro n a1 w1 ⟨ρ1, e1, H1, ms1, hx1, hs1, hd1, hi1⟩
  refine wpIn_mono (hr n ms1 e1 H1 hi1 a' ha base hR ρ1 w1 a1.tmps a1.defers hd1 hs1) fun ex a2 w2 hh => ?_
  cases ex with
  | normal =>
    simp only [AQR, QThenR, Exit.then] at hh ⊢
    obtain ⟨ρ2, e2, H2, ms2, hx2, hs2, hd2, m, hlt, hi2⟩ := hh
    exact ⟨m, hlt, ρ2, e2, H2, ms2, hx1.trans hx2, hs2, hd2, hi2⟩
  | exit id => exact hh.ext hx1
  | goto l => exact hh
  | ret => exact hh.ext hx1
  | panic ch => exact hh
  | outgrown => exact hh
theorem AWpR.loop {x : AC} (I : List Nat → Env → AH → Prop) (μ : Env → AH → Nat) (h0 : I ms env H)
    (hr : ∀ ms e H, I ms e H → AWpR P R ro ms nt x (QThenR (fun ms' e' H' => I ms' e' H' ∧ μ e' H' < μ e H) Q) e H) : AWpR P R ro ms nt (.loop x) Q env H :=
  AWpR.loop_ind (fun n ms e H => I ms e H ∧ μ e H = n) (n := μ env H) ⟨h0, rfl⟩ fun n ms e H ⟨h1, h2⟩ => (hr ms e H h1).mono fun ex ms' e' H' hh => by
    cases ex <;> simp only [QThenR] at hh ⊢ <;> first | exact hh | exact ⟨_, by omega, hh.1, rfl⟩
end
/-! ### Operations -/
section
variable (P : Program) (R : Ro)
/-- What an operation asks of what follows, yield's calls with it. -/
def stepY (o : AOper) (K : Env → AH → Prop) (e : Env) (H : AH) : Prop :=
  match o.op with
  | .callv x xs => match x.ev e with
    | .raw (.func (.yield l) a b) => a = #[] ∧ b = #[] ∧ YCall P R l (xs.map (X.ev e)) H fun v H' => K (e.put o.dst v) H'
    | _ => stepOp P R o K e H
  | _ => stepOp P R o K e H
def runY : List AOper → (Env → AH → Prop) → Env → AH → Prop
  | [], K, e, H => K e H
  | o :: os, K, e, H => match wantedA o e with
    | some true => stepY P R o (runY os K) e H
    | some false => runY os K (e.put o.dst AV.undef) H
    | none => False
end
section
variable {P : Program} {R : Ro} {ro : Option Nat} {ms : List Nat} {nt : Nat} {Q Q' : Exit → List Nat → Env → AH → Prop} {env : Env} {H : AH}
theorem compOp_defer {op : Op} {x : AOp} (h : compOp P op = some x) : ∀ c, op ≠ .defer c := by
  intro c e; subst e; simp [compOp] at h
theorem yieldv_sound {ρ : Ren} {e : Env} {ev : Operand → Value} {w : World} (he : EvOk ρ e ev) {o : Oper} {x : X} {xs : List X} {l : Nat} (hc : compOp P o.op = some (.callv x xs)) (hx : x.ev e = .raw (.func (.yield l) #[] #[])) :
    ∃ args, renL ρ (xs.map (X.ev e)) = some args ∧ (execOp ev o).run P w = (Instr.yield l args.toArray).run P w := by
  cases hop : o.op <;> rw [hop] at hc <;> simp only [compOp] at hc
  case call c =>
    unfold compCall at hc
    split at hc
    · repeat' split at hc
      all_goals first
        | (cases hc; done)
        | (simp only [Option.map_eq_some_iff] at hc; obtain ⟨_, _, hc⟩ := hc; cases hc; done)
    · rename_i t hcal
      split at hc
      · rename_i ys hys
        cases hc
        have h1 := he.tmp t
        simp only [X.ev] at hx
        rw [hx] at h1
        simp only [ren] at h1
        split at h1
        · simp only [Option.some.injEq] at h1
          refine ⟨(c.args.map ev).toList, by rw [Array.toList_map]; exact cxs_ok he hys, ?_⟩
          simp only [execOp, hop, resolve, hcal, ← h1, Deferred.ofValue]
          simp only [Sem.run_bind, Sem.run_pure, Result.andThen_ok, invoke]
          simp
          congr 2
          apply Array.ext'
          simp
        · cases h1
      · cases hc
    all_goals
      repeat' split at hc
      all_goals first
        | (cases hc; done)
        | (simp only [Option.map_eq_some_iff] at hc; obtain ⟨_, _, hc⟩ := hc; cases hc; done)
        | (rename_i heq; cases heq; done)
  all_goals
    repeat' split at hc
    all_goals first
      | (cases hc; done)
      | (simp only [Option.map_eq_some_iff] at hc; obtain ⟨_, _, hc⟩ := hc; cases hc; done)
      | (rename_i heq; cases heq; done)
theorem put_tm (a : Act) (d : Option Tmp) (x : Value) : ({ tmps := (a.put d x).tmps, defers := [] } : Act) = ({ tmps := a.tmps, defers := [] } : Act).put d x := by cases d <;> rfl
theorem put_df (a : Act) (d : Option Tmp) (x : Value) : (a.put d x).defers = a.defers := by cases d <;> rfl
/-- One operation. -/
theorem stepY_sound {base : World} (hR : ROk R base) {ρ : Ren} {a : Act} {w : World} {ops : Array Oper} {o : Oper} {ao : AOper} (hs : St base ρ env H { tmps := a.tmps, defers := [] } w nt) (h : operC P ops nt o = some ao) {K : Env → AH → Prop} (hk : stepY P R ao K env H)
    {Q : Exit → Act → World → Prop} : o.wpIn (wideR ro) 0 P a w (fun a' w' => ∃ ρ' e' H', Ext ρ ρ' ∧ St base ρ' e' H' { tmps := a'.tmps, defers := [] } w' nt ∧ a'.defers = a.defers ∧ K e' H') Q := by
  obtain ⟨hc, _, hd, hdst⟩ := operC_inv h
  have hev : a.eval = ({ tmps := a.tmps, defers := [] } : Act).eval := rfl
  have fin : ∀ {ρ' : Ren} {H' : AH} {w' : World} {v : AV} {x : Value}, Rel base ρ' H' w' → Ext ρ ρ' → ren ρ' v = some x → K (env.put ao.dst v) H' →
      ∃ ρ' e' H', Ext ρ ρ' ∧ St base ρ' e' H' { tmps := (a.put o.dst x).tmps, defers := [] } w' nt ∧ (a.put o.dst x).defers = a.defers ∧ K e' H' := by
    intro ρ' H' w' v x hr hx hv hq
    rw [hdst] at hq
    exact ⟨ρ', _, H', hx, by rw [put_tm]; exact hs.put hr hx hd hv, put_df _ _ _, hq⟩
  refine ⟨fun _ _ => trivial, ?_⟩
  unfold stepY at hk
  split at hk
  · rename_i x xs hop
    rw [hop] at hc
    have hc := hc.resolve_left (by intro h0; cases h0)
    rw [show (wideR ro).round = ro from rfl, Oper.semAt_eq _ _ _ (compOp_defer hc), hev]
    split at hk
    · rename_i l pa pb hx
      obtain ⟨rfl, rfl, hk⟩ := hk
      obtain ⟨args, h1, h2⟩ := yieldv_sound (w := w) hs.ev hc hx
      rw [h2]
      obtain ⟨fn, tmps, assign, body, hy, hround⟩ := hk base hR ρ w args hs.rel h1
      rw [hy, Oper.uponIn_round]
      refine ⟨fun h => by simp [wideR, Fence.wide] at h, RoundIn.mono (show RoundIn (wideR ro) 0 P l fn tmps assign body w _ from hround) ?_⟩
      rintro e w' ⟨v, V, ρ', H', rfl, hx', hr, hv, hq⟩
      exact fin hr hx' hv hq
    · unfold stepOp at hk
      rw [hop] at hk
      simp only at hk
      split at hk
      · rename_i f as hf
        obtain ⟨hb, hk⟩ := hk
        obtain ⟨args, h1, h2⟩ := callv_sound (w := w) hs.ev hc hf hb
        rw [h2, Oper.uponIn_enter]
        refine ⟨fun h => by simp [wideR, Fence.wide] at h, callsIn_wideR.2 ((hk base hR ρ w args hs.rel h1).mono ?_)⟩
        rintro e w' ⟨v, V, ρ', H', rfl, hx, hr, hv, hq⟩
        exact fin hr hx hv hq
      · exact hk.elim
  · rename_i hno
    unfold stepOp at hk
    split at hk
    · rename_i f xs hop
      rw [hop] at hc
      have hc := hc.resolve_left (by intro h0; cases h0)
      rw [show (wideR ro).round = ro from rfl, Oper.semAt_eq _ _ _ (compOp_defer hc), hev]
      obtain ⟨args, h1, h2⟩ := call_sound (w := w) hs.ev hc
      rw [h2, Oper.uponIn_enter]
      refine ⟨fun h => by simp [wideR, Fence.wide] at h, callsIn_wideR.2 ((hk base hR ρ w args hs.rel h1).mono ?_)⟩
      rintro e w' ⟨v, V, ρ', H', rfl, hx, hr, hv, hq⟩
      exact fin hr hx hv hq
    · rename_i x xs hop
      exact absurd hop (hno x xs)
    · split at hk
      · rename_i v H' hev2
        have hc2 := op_of_eval hc hev2
        rw [show (wideR ro).round = ro from rfl, Oper.semAt_eq _ _ _ (compOp_defer hc2), hev]
        obtain ⟨ρ', w', x, hrun, hx, hr, hv⟩ := (op_sound hR hs.rel hs.ev hc2 hev2).1
        rcases hrun with hrun | ⟨hrun, rfl⟩
        · rw [hrun, Oper.uponIn_value]; exact fin hr hx hv hk
        · rw [hrun, Oper.uponIn_skip]; exact fin hr hx hv hk
      · exact hk.elim
theorem runY_sound {base : World} (hR : ROk R base) {ops : Array Oper} {l : List AOper} (hl : opersC P ops nt ops.toList = some l) {K : Env → AH → Prop} {Q : Exit → Act → World → Prop} {ρ0 : Ren} {ds : List Deferred} (hQ : ∀ ρ e H tm w, Ext ρ0 ρ → St base ρ e H { tmps := tm, defers := [] } w nt → K e H → Q .normal { tmps := tm, defers := ds } w) :
    ∀ (n i : Nat), i + n = ops.size → ∀ (ρ : Ren) (env : Env) (H : AH) (tm : Array Value) (w : World), Ext ρ0 ρ → St base ρ env H { tmps := tm, defers := [] } w nt → runY P R (l.drop i) K env H → wpOpsIn (wideR ro) 0 P ops Q (List.range' i n) { tmps := tm, defers := ds } w := by
  have hlen := opersC_length hl
  simp at hlen
  intro n
  induction n with
  | zero =>
    intro i hi ρ env H tm w hx hs hk
    rw [List.drop_of_length_le (by omega)] at hk
    exact hQ ρ env H tm w hx hs hk
  | succ n ih =>
    intro i hi ρ env H tm w hx hs hk
    have hilt : i < ops.size := by omega
    have hoi : ops.toList[i]? = some ops[i] := by simp [hilt]
    obtain ⟨ao, hao, hc⟩ := opersC_get hl i _ hoi
    have hdrop : l.drop i = ao :: l.drop (i + 1) := by
      have hlt : i < l.length := by omega
      rw [List.drop_eq_getElem_cons hlt]
      congr 1
      rw [List.getElem?_eq_getElem hlt] at hao
      exact Option.some.inj hao
    rw [hdrop] at hk
    rw [List.range'_succ]
    unfold wpOpsIn
    rw [Array.getElem?_eq_getElem hilt]
    dsimp only
    simp only [runY] at hk
    split at hk
    · rename_i hw
      rw [if_pos (wanted_sound (a := { tmps := tm, defers := [] }) hs hc hw)]
      refine Oper.wpIn_mono (fun a' w' hh => ?_) (stepY_sound (a := { tmps := tm, defers := ds }) (Q := Q) hR hs hc hk)
      obtain ⟨ρ', e', H', hx', hs', hd', hk'⟩ := hh
      have : a' = { tmps := a'.tmps, defers := ds } := by cases a'; simp only at hd'; rw [hd']
      rw [this]
      exact ih (i + 1) (by omega) ρ' e' H' a'.tmps w' (hx.trans hx') hs' hk'
    · rename_i hw
      rw [if_neg (by rw [wanted_sound (a := { tmps := tm, defers := [] }) hs hc hw]; simp)]
      obtain ⟨_, _, hd, hdst⟩ := operC_inv hc
      rw [hdst] at hk
      refine ⟨fun _ _ => trivial, ?_⟩
      have h2 := ih (i + 1) (by omega) ρ _ H (({ tmps := tm, defers := [] } : Act).put ops[i].dst Go.undef).tmps w hx (by rw [put_tm]; exact hs.put hs.rel (Ext.refl _) hd rfl) hk
      have h3 : (({ tmps := tm, defers := ds } : Act).put ops[i].dst Go.undef) = { tmps := (({ tmps := tm, defers := [] } : Act).put ops[i].dst Go.undef).tmps, defers := ds } := by cases ops[i].dst <;> rfl
      rw [h3]; exact h2
    · exact hk.elim
theorem AWpR.ops {l : List AOper} (h : runY P R l (fun e H => Q .normal ms e H) env H) : AWpR P R ro ms nt (.ops l) Q env H := by
  intro c hc base hR ρ w tm ds hd hs
  obtain ⟨id, ops, rfl, hl⟩ := compC_inv hc
  refine wpIn_region ?_
  rw [List.range_eq_range']
  exact runY_sound hR hl (fun ρ' e' H' tm' w' hx hs' hk => ⟨ρ', e', H', ms, hx, hs', marks_ext hx hd, hk⟩) ops.size 0 (by omega) ρ env H tm w (Ext.refl _) hs h
end
end Am
namespace Am
open Go Go.RowKit
set_option linter.unusedSimpArgs false
set_option linter.unusedVariables false
/-! ### The rounds -/
def putArgs (e : Env) : List Nat → List AV → Env
  | p :: ps, v :: vs => putArgs (e.upd p v) ps vs
  | _, _ => e
section
variable {P : Program} {R : Ro} {ro : Option Nat} {ms : List Nat} {nt : Nat} {Q Q' : Exit → List Nat → Env → AH → Prop} {env : Env} {H : AH}
theorem putArgs_ok {base : World} {ρ : Ren} {w : World} : ∀ {ps : List Nat} {args : List AV} {Vs : List Value} {e : Env} {tm : Array Value}, St base ρ e H { tmps := tm, defers := [] } w nt → (∀ p ∈ ps, p < nt) → args.length = ps.length → renL ρ args = some Vs →
    St base ρ (putArgs e ps args) H { tmps := (ps.zip Vs).foldl (fun t (x : Nat × Value) => t.setIfInBounds x.1 x.2) tm, defers := [] } w nt
  | [], args, Vs, e, tm, hs, _, hl, hV => by
    have : args = [] := List.eq_nil_of_length_eq_zero (by simpa using hl)
    subst this
    rw [renL_nil hV]
    exact hs
  | p :: ps, [], Vs, e, tm, hs, _, hl, hV => by simp at hl
  | p :: ps, v :: args, Vs, e, tm, hs, hp, hl, hV => by
    obtain ⟨x, xs, h1, h2, rfl⟩ := renL_cons hV
    have hd : dstC nt (some p) = true := by simpa [dstC] using hp p (List.mem_cons_self ..)
    have h3 := hs.put hs.rel (Ext.refl _) hd h1
    exact putArgs_ok (e := e.upd p v) (tm := tm.setIfInBounds p x) h3 (fun q hq => hp q (List.mem_cons_of_mem _ hq)) (by simpa using hl) h2
theorem ren_undef_any {ρ : Ren} {v : AV} (h : ren ρ v = some Go.undef) : ∀ ρ', ren ρ' v = some Go.undef := by
  intro ρ'
  cases v <;> simp only [ren, Option.map_eq_some_iff] at h <;> first
    | (cases h; done)
    | (obtain ⟨a, h1, h2⟩ := h; cases h2; done)
    | (split at h <;> cases h; done)
    | skip
  · rename_i vs
    obtain ⟨a, h1, h2⟩ := h
    have : a = [] := by
      have := congrArg (fun v => match v with | Value.tuple x => x.toList | _ => []) h2
      simpa [Go.undef] using this
    subst this
    have hv : vs = [] := List.eq_nil_of_length_eq_zero (by rw [← renL_length h1]; rfl)
    subst hv
    rfl
  · rename_i x
    split at h
    · cases h
      rename_i hx
      simp [Go.undef, Value.oneCell'] at hx
    · cases h
/-- What a round must come to. -/
def endQ (mi l : Nat) (OL : LoopState → Option Code → AO) (K : AV → AH → Prop) : Exit → AH → Prop
  | .normal, G => K (.bool true) (G.set mi (OL .ready none))
  | .ret, G => K (.bool false) (G.set mi (OL .done (some .ret)))
  | .exit id, G => K (.bool false) (G.set mi (OL .done (some (.exit id))))
  | _, _ => False
/-- One round, walked. -/
def RoundW (P : Program) (R : Ro) (nt : Nat) (env : Env) (ps : List Nat) (asg bdy : AC) (mi l : Nat) (OL : LoopState → Option Code → AO) (args : List AV) (G : AH) (K : AV → AH → Prop) : Prop :=
  AWpR P R (some l) [] nt asg (fun ex ms e G1 => ex = .normal ∧ ms = [] ∧ G1[mi]? = some (OL .ready none) ∧ AWpR P R (some l) [] nt bdy (fun ex ms' e' G2 => G2[mi]? = some (OL .busy none) ∧ endQ mi l OL K ex G2) e (G1.set mi (OL .busy none))) (putArgs env ps args) G
theorem AWpR.rangeF {g : X} {ps : List Nat} {asg bdy : AC} {gf : FuncId} {cap : List AV} (hg : g.ev env = .fn (.func gf) [] cap) (hb : bodied P gf = true)
    (h : ∀ (rb : Nat) (OL : LoopState → Option Code → AO),
      (∀ (args : List AV) (G : AH) (K : AV → AH → Prop), args.length = ps.length → G[H.length + 1]? = some (OL .ready none) → RoundW P R nt env ps asg bdy (H.length + 1) (rb + 1) OL args G K → YCall P R (rb + 1) args G K) →
      ACalls P R gf (.raw (.func (.yield (rb + 1)) #[] #[]) :: cap) (H ++ [.obj rb (.deferred (some [])) [] [], OL .ready none]) fun v G =>
        (G[H.length + 1]? = some (OL .ready none) ∧ Q .normal (H.length :: ms) env (G.set (H.length + 1) .dead)) ∨
        (G[H.length + 1]? = some (OL .done (some .ret)) ∧ Q .ret (H.length :: ms) env (G.set (H.length + 1) .dead)) ∨
        ∃ id, G[H.length + 1]? = some (OL .done (some (.exit id))) ∧ Q (.exit id) (H.length :: ms) env (G.set (H.length + 1) .dead)) :
    AWpR P R none ms nt (.rangeF g ps asg bdy) Q env H := by
  intro c hc base hR ρ w tm ds hd hs
  obtain ⟨o, pa, ca, cb, rfl, ho, hpa, hca, hcb, hps⟩ := compC_inv hc
  have hps' : ∀ p ∈ ps, p < nt := fun p hp => by simpa using List.all_eq_true.1 hps p hp
  have hgv := cx_ok hs.ev ho
  rw [hg] at hgv
  obtain ⟨LC, hLC, hgev⟩ : ∃ LC, renL ρ cap = some LC ∧ ({ tmps := tm, defers := [] } : Act).eval o = .func (.func gf) #[] LC.toArray := by
    simp only [ren, renL] at hgv
    split at hgv
    · rename_i a c' h1 h2
      cases h1
      exact ⟨c', h2, (Option.some.inj hgv).symm⟩
    · cases hgv
  have hgev' : ({ tmps := tm, defers := ds } : Act).eval o = .func (.func gf) #[] LC.toArray := hgev
  refine wpIn_rangeFunc ?_
  intro fn hfn
  have hro : (wideR none).round = none := rfl
  rw [hro]
  have hlen := hs.rel.len
  -- the record
  obtain ⟨rec, hrec⟩ : ∃ rec : LoopState → Option Code → Loop, rec = fun st pe => { state := st, pending := pe, fn, tmps := tm, params := pa, assign := ca, body := cb, defers := w.heap.size } := ⟨_, rfl⟩
  obtain ⟨OL, hOL⟩ : ∃ OL : LoopState → Option Code → AO, OL = fun st pe => .obj (w.heap.size + 1) (.loop (rec st pe)) ((List.range nt).map env) tm.toList := ⟨_, rfl⟩
  have hes : ∀ {ρ' : Ren}, Ext ρ ρ' → renL ρ' ((List.range nt).map env) = some tm.toList := fun {ρ'} hx => by
    have hsz := hs.size
    have key : ∀ (k : Nat), k ≤ nt → renL ρ' ((List.range k).map env) = some (tm.toList.take k) := fun k => by
      induction k with
      | zero => intro _; rfl
      | succ k ih =>
        intro hk
        have hkl : k < tm.size := by simp only at hsz; omega
        rw [List.range_succ, List.map_append, List.take_add_one]
        have hv := ren_ext hx (hs.val k)
        simp only [Array.getD_eq_getD_getElem?, Array.getElem?_eq_getElem hkl, Option.getD_some] at hv
        have h1 : renL ρ' [env k] = some [tm[k]] := renL_cons_mk hv rfl
        have h2 := renL_append (ih (by omega)) h1
        have h3 : tm.toList[k]? = some tm[k] := by rw [Array.getElem?_toList, Array.getElem?_eq_getElem hkl]
        rw [h3]
        simpa using h2
    have h4 := key nt (Nat.le_refl _)
    rw [List.take_of_length_le (by simp only at hsz; simp; omega)] at h4
    exact h4
  -- the two blocks
  obtain ⟨w1, hw1⟩ : ∃ w1, w.alloc (.deferred (some [])) = w1 := ⟨_, rfl⟩
  obtain ⟨w2, hw2⟩ : ∃ w2, w1.alloc (.loop (rec .ready none)) = w2 := ⟨_, rfl⟩
  have hsz1 : w1.heap.size = w.heap.size + 1 := by rw [← hw1]; simp
  have hrel1 : Rel base (ρ ++ [⟨w.heap.size, 0, 0⟩]) (H ++ [.obj w.heap.size (.deferred (some [])) [] []]) w1 := by
    rw [← hw1]
    exact hs.rel.new (.deferred (some [])) _ 0 0 w.drawn ⟨rfl, by simp, rfl⟩
  have hx1 : Ext ρ (ρ ++ [⟨w.heap.size, 0, 0⟩]) := Ext.mk _ _
  have hrel2 : Rel base (ρ ++ [⟨w.heap.size, 0, 0⟩] ++ [⟨w1.heap.size, 0, 0⟩]) (H ++ [.obj w.heap.size (.deferred (some [])) [] []] ++ [OL .ready none]) w2 := by
    rw [← hw2]
    refine hrel1.new (.loop (rec .ready none)) _ 0 0 w1.drawn ?_
    rw [hOL]
    exact ⟨hsz1, by simp, hes (hx1.trans (Ext.mk _ _))⟩
  have hx2 : Ext ρ (ρ ++ [⟨w.heap.size, 0, 0⟩] ++ [⟨w1.heap.size, 0, 0⟩]) := hx1.trans (Ext.mk _ _)
  generalize hρ2 : ρ ++ [⟨w.heap.size, 0, 0⟩] ++ [⟨w1.heap.size, 0, 0⟩] = ρ2 at hrel2 hx2
  have hmk : ρ2[H.length]? = some ⟨w.heap.size, 0, 0⟩ := by
    rw [← hρ2, List.append_assoc, List.getElem?_append_right (by omega), hlen]; simp
  have hY : ∀ (args : List AV) (G : AH) (K : AV → AH → Prop), args.length = ps.length → G[H.length + 1]? = some (OL .ready none) → RoundW P R nt env ps asg bdy (H.length + 1) (w.heap.size + 1) OL args G K → YCall P R (w.heap.size + 1) args G K := by
    intro args G K hal hG hW base' hR' ρ' wr Vs hrel' hVs
    obtain ⟨q, hq⟩ := hrel'.slot hG
    have hG' := hG
    rw [hOL] at hG'
    obtain ⟨o1, o2, o3⟩ := hrel'.obj _ _ q hG' hq
    rw [o1] at o2
    have hvl := renL_length hVs
    have hpl : pa.size = ps.length := by rw [← hpa]; simp
    refine ⟨_, _, _, _, run_yield (args := Vs.toArray) o2 (by rw [hrec]; simp [hvl, hal, hpl]), ?_⟩
    have hst0 : St base' ρ' env G { tmps := tm, defers := [] } wr nt := by
      refine ⟨hrel', hs.size, fun t => ?_, rfl⟩
      by_cases ht : t < nt
      · have hsz := hs.size
        simp only at hsz
        obtain ⟨x, hx, hr⟩ := renL_getElem? o3 t (env t) (by simp [ht])
        rw [hr]
        rw [Array.getElem?_toList, Array.getElem?_eq_getElem (by omega)] at hx
        simp only [Option.some.injEq] at hx
        simp [Array.getD_eq_getD_getElem?, show t < tm.size by omega, hx]
      · have hv := hs.val t
        have hsz := hs.size
        simp only at hsz
        simp only [Array.getD_eq_getD_getElem?, Array.getElem?_eq_none (show tm.size ≤ t by omega), Option.getD_none] at hv ⊢
        exact ren_undef_any hv ρ'
    have hst1 := putArgs_ok hst0 hps' hal hVs
    have hfold : (((rec .ready none).params.zip Vs.toArray).foldl (fun tmps (x : Nat × Value) => tmps.setIfInBounds x.1 x.2) (rec .ready none).tmps) = (ps.zip Vs).foldl (fun t (x : Nat × Value) => t.setIfInBounds x.1 x.2) tm := by
      rw [hrec, ← hpa]
      simp only
      rw [← Array.foldl_toList]
      simp
    have hroundIn : RoundIn (wideR none) 0 P (w.heap.size + 1) fn (((rec .ready none).params.zip Vs.toArray).foldl (fun tmps (x : Nat × Value) => tmps.setIfInBounds x.1 x.2) (rec .ready none).tmps) ca cb wr fun e w' => ∃ v V ρ'' H', e = .returned V ∧ Ext ρ' ρ'' ∧ Rel base' ρ'' H' w' ∧ ren ρ'' v = some V ∧ K v H' := by
      rw [hfold]
      refine roundIn_of_wpIn trivial ?_
      have h1 := hW ca hca base' hR' ρ' wr _ [] rfl hst1
      refine wpIn_mono h1 ?_
      intro ex a1 wa hh
      cases ex with
      | normal =>
        simp only [AQR, Exit.then] at hh ⊢
        obtain ⟨ρ1, e1, G1, ms1, hx1', hs1, hd1, _, rfl, hG1, hbody⟩ := hh
        obtain ⟨q1, hq1⟩ := hs1.rel.slot hG1
        have hG1' := hG1
        rw [hOL] at hG1'
        obtain ⟨p1, p2, p3⟩ := hs1.rel.obj _ _ q1 hG1' hq1
        rw [p1] at p2
        have hbr := run_beginRound (P := P) p2 (by rw [hrec])
        rw [hrec] at hbr
        refine ⟨_, hbr, ?_⟩
        have hp2s : w.heap.size + 1 < wa.heap.size := (Array.getElem?_eq_some_iff.1 p2).1
        have hs2 : St base' ρ1 e1 (G1.set (H.length + 1) (OL .busy none)) { tmps := a1.tmps, defers := [] } (wa.putObj (w.heap.size + 1) (.loop (rec .busy none))) nt := by
          refine ⟨hs1.rel.put hG1' hq1 rfl rfl rfl rfl (by simp) (fun k hk => World.putObj_heap_other (by rw [← p1]; exact hk)) ?_, hs1.size, hs1.val, rfl⟩
          rw [hOL]
          exact ⟨p1, by rw [p1]; exact World.putObj_heap_same hp2s, p3⟩
        have hdef1 : a1 = { tmps := a1.tmps, defers := [] } := by
          simp only [marks, Option.some.injEq] at hd1
          cases a1; simp only at hd1; rw [← hd1]
        have h2 := hbody cb hcb base' hR' ρ1 _ a1.tmps [] rfl hs2
        rw [hrec] at h2
        rw [hdef1]
        refine wpIn_mono h2 ?_
        intro ex2 a2 wb hh2
        have fin : ∀ {G2 : AH} {ρ2' : Ren} {e2 : Env} (jump : Option Code) (st : LoopState), (st = if jump.isNone then .ready else .done) → Ext ρ1 ρ2' → St base' ρ2' e2 G2 { tmps := a2.tmps, defers := [] } wb nt → G2[H.length + 1]? = some (OL .busy none) → K (.bool jump.isNone) (G2.set (H.length + 1) (OL st jump)) →
            ∃ v w', (Instr.endRound (w.heap.size + 1) jump).run P wb = .ok v w' ∧ ∃ v' V ρ'' H', Ending.returned v = .returned V ∧ Ext ρ' ρ'' ∧ Rel base' ρ'' H' w' ∧ ren ρ'' v' = some V ∧ K v' H' := by
          intro G2 ρ2' e2 jump st hst hx2' hs2' hG2 hK
          obtain ⟨q2, hq2⟩ := hs2'.rel.slot hG2
          have hG2' := hG2
          rw [hOL] at hG2'
          obtain ⟨r1, r2, r3⟩ := hs2'.rel.obj _ _ q2 hG2' hq2
          rw [r1] at r2
          have hr2s : w.heap.size + 1 < wb.heap.size := (Array.getElem?_eq_some_iff.1 r2).1
          have her := run_endRound (P := P) jump r2
          refine ⟨_, _, her, .bool jump.isNone, _, ρ2', _, rfl, hx1'.trans hx2', hs2'.rel.put hG2' hq2 rfl rfl rfl rfl (by simp) (fun k hk => World.putObj_heap_other (by rw [← r1]; exact hk)) ?_, rfl, hK⟩
          rw [hOL, hst]
          refine ⟨r1, ?_, r3⟩
          rw [r1, World.putObj_heap_same hr2s, hrec]
        cases ex2 with
        | normal =>
          simp only [AQR] at hh2
          obtain ⟨ρ2', e2, G2, ms2, hx2', hs2', _, hG2, hK⟩ := hh2
          exact fin none .ready rfl hx2' hs2' hG2 hK
        | ret =>
          simp only [AQR] at hh2
          obtain ⟨ρ2', e2, G2, ms2, hx2', hs2', _, hG2, hK⟩ := hh2
          exact fin (some .ret) .done rfl hx2' hs2' hG2 hK
        | exit id =>
          simp only [AQR] at hh2
          obtain ⟨ρ2', e2, G2, ms2, hx2', hs2', _, hG2, hK⟩ := hh2
          exact fin (some (.exit id)) .done rfl hx2' hs2' hG2 hK
        | goto t => exact hh2.elim
        | panic ch => exact hh2.elim
        | outgrown => exact hh2.elim
      | exit id => simp only [AQR] at hh; obtain ⟨_, _, _, _, _, _, _, h0, _⟩ := hh; cases h0
      | ret => simp only [AQR] at hh; obtain ⟨_, _, _, _, _, _, _, h0, _⟩ := hh; cases h0
      | goto t => exact hh.elim
      | panic ch => exact hh.elim
      | outgrown => exact hh.elim
    have e2 : (Vs.toArray) = Vs.toArray := rfl
    rw [hrec] at hroundIn
    rw [hrec]
    exact hroundIn
  have hcall := h w.heap.size OL hY
  · refine ⟨w.heap.size + 1, [{ target := .collected w.heap.size, args := #[] }], w2, { target := .fn (.func gf) LC.toArray, args := #[.func (.yield (w.heap.size + 1)) #[] #[]] }, w2, gf, #[.func (.yield (w.heap.size + 1)) #[] #[]] ++ LC.toArray, w2, ?_, ?_, ?_, ?_, fun h => by simp [wideR, Fence.wide] at h, ?_⟩
    · rw [← hw2, ← hw1, hrec]; exact run_enterLoop_outer _ _ _ _ _
    · simp only [resolve, hgev']
      simp [go_sem]
    · intro f' hf'; trivial
    · simp [invoke, go_sem, callFunc_run hb]
    · rw [callsIn_wideR]
      have hargs : renL ρ2 (.raw (.func (.yield (w.heap.size + 1)) #[] #[]) :: cap) = some (.func (.yield (w.heap.size + 1)) #[] #[] :: LC) := renL_cons_mk (by simp [ren, Value.oneCell']) (renL_ext hx2 hLC)
      have e0 : (#[Value.func (.yield (w.heap.size + 1)) #[] #[]] ++ LC.toArray) = (Value.func (.yield (w.heap.size + 1)) #[] #[] :: LC).toArray := by simp
      rw [e0]
      rw [List.append_assoc] at hrel2
      refine (hcall base hR ρ2 w2 _ hrel2 hargs).mono ?_
      rintro e w3 ⟨v, V, ρ3, G, rfl, hx3, hr3, hv3, hcase⟩
      have hx03 := hx2.trans hx3
      have hmks : ∀ {ρ' : Ren}, Ext ρ3 ρ' → marks ρ' (H.length :: ms) = some ([{ target := .collected w.heap.size, args := #[] }] ++ ds) := fun {ρ'} hx' => by
        simp only [marks]
        rw [(hx3.trans hx').get hmk, marks_ext (hx03.trans hx') hd]
        rfl
      have fin : ∀ {st : LoopState} {pe : Option Code}, G[H.length + 1]? = some (OL st pe) → st ≠ .busy → ∃ w4, (Instr.endLoop (w.heap.size + 1)).run P w3 = .ok pe w4 ∧ St base ρ3 env (G.set (H.length + 1) .dead) { tmps := tm, defers := [] } w4 nt := by
        intro st pe hG hst
        obtain ⟨q, hq⟩ := hr3.slot hG
        rw [hOL] at hG
        obtain ⟨o1, o2, o3⟩ := hr3.obj _ _ q hG hq
        rw [o1] at o2
        have hrun := run_endLoop (P := P) o2 (by rw [hrec]; exact hst)
        rw [hrec] at hrun
        refine ⟨_, hrun, ⟨hr3.put hG hq rfl rfl rfl rfl (by simp) (fun k hk => World.putObj_heap_other (by rw [← o1]; exact hk)) trivial, hs.size, fun t => ren_ext hx03 (hs.val t), rfl⟩⟩
      rcases hcase with ⟨hG, hq⟩ | ⟨hG, hq⟩ | ⟨id, hG, hq⟩
      · obtain ⟨w4, h1, h2⟩ := fin hG (by simp)
        exact ⟨none, w4, h1, ρ3, env, _, _, hx03, h2, hmks (Ext.refl _), hq⟩
      · obtain ⟨w4, h1, h2⟩ := fin hG (by simp)
        exact ⟨some .ret, w4, h1, wpIn_ret ⟨ρ3, env, _, _, hx03, h2, hmks (Ext.refl _), hq⟩⟩
      · obtain ⟨w4, h1, h2⟩ := fin hG (by simp)
        exact ⟨some (.exit id), w4, h1, wpIn_exit ⟨ρ3, env, _, _, hx03, h2, hmks (Ext.refl _), hq⟩⟩
end
end Am
namespace Am
open Go Go.RowKit
set_option linter.unusedSimpArgs false
set_option linter.unusedVariables false
/-! ### The function that holds it -/
/-- What a body must come to. -/
def QRetR (R : Ro) (res : List RX) (K : AV → AH → Prop) : Exit → List Nat → Env → AH → Prop := fun ex ms e H =>
  match ex with
  | .normal | .ret => match ms with
    | [] => (match resE R e H res with
      | some vs => K (resV vs) H
      | none => False)
    | [m] => (∃ rb, H[m]? = some (.obj rb (.deferred (some [])) [] [])) ∧ (match resE R e (H.set m .dead) res with
      | some vs => K (resV vs) (H.set m .dead)
      | none => False)
    | _ => False
  | _ => False
section
variable {P : Program} {R : Ro}
theorem start_st {base : World} {ρ : Ren} {H : AH} {w : World} {args : List AV} {Vs : List Value} {nt : Nat} (hrel : Rel base ρ H w) (hV : renL ρ args = some Vs) (hn : args.length ≤ nt) :
    St base ρ (env0 args) H { tmps := Vs.toArray ++ Array.replicate (nt - Vs.toArray.size) Go.undef, defers := [] } w nt := by
  have hlen := renL_length hV
  refine ⟨hrel, ?_, fun t => ?_, rfl⟩
  · simp; omega
  · simp only [env0]
    by_cases ht : t < args.length
    · obtain ⟨x, hx, hr⟩ := renL_getElem? hV t args[t] (List.getElem?_eq_getElem ht)
      have : args.getD t AV.undef = args[t] := by simp [ht]
      rw [this, hr]
      congr 1
      have hlt : t < Vs.length := by omega
      rw [List.getElem?_eq_getElem hlt] at hx
      simp only [Array.getD_eq_getD_getElem?]
      rw [Array.getElem?_append_left (by simpa using hlt)]
      simp [hlt] at hx ⊢
      exact hx.symm
    · have : args.getD t AV.undef = AV.undef := by simp [Nat.le_of_not_lt ht]
      rw [this]
      simp only [Array.getD_eq_getD_getElem?]
      rw [Array.getElem?_append_right (by simp; omega)]
      simp only [Array.getElem?_replicate]
      split <;> rfl
theorem ACalls.of_bodyR {f : FuncId} {af : AFn} (hf : FnOk P f af) {args : List AV} (hn : args.length ≤ af.nt) {H : AH} {K : AV → AH → Prop} (h : AWpR P R none [] af.nt af.body (QRetR R af.res K) (env0 args) H) : ACalls P R f args H K := by
  intro base hR ρ w Vs hrel hV
  obtain ⟨fn, c, h1, h2, h3, h4, h5⟩ := hf
  refine (callsIn_wideR (ro := none) (n := 0)).1 (callsIn_of_wp_marks h1 h2 trivial ?_ rfl)
  have hst := start_st hrel hV hn
  rw [← h3] at hst
  have hw := h c h4 base hR ρ w _ [] rfl (by rw [← h3]; exact hst)
  refine wpIn_mono hw ?_
  intro ex a1 w1 hh
  have key : (∃ ρ' env H ms, Ext ρ ρ' ∧ St base ρ' env H { tmps := a1.tmps, defers := [] } w1 af.nt ∧ marks ρ' ms = some a1.defers ∧ QRetR R af.res K .ret ms env H) →
      LeavesInM (wideR none) 0 P fn a1.tmps (fun e w' => ∃ v V ρ' H', e = .returned V ∧ Ext ρ ρ' ∧ Rel base ρ' H' w' ∧ ren ρ' v = some V ∧ K v H') a1.defers .returning w1 := by
    rintro ⟨ρ', env, H', ms, hx, hs, hm, hq⟩
    simp only [QRetR] at hq
    match ms, hm, hq with
    | [], hm, hq =>
      simp only [marks, Option.some.injEq] at hm
      rw [← hm]
      simp only at hq
      split at hq
      · rename_i vs hvs
        obtain ⟨V, e1, e2⟩ := results_sound hR hs h5 hvs
        exact ⟨V, e2, resV vs, V, ρ', H', rfl, hx, hs.rel, e1, hq⟩
      · exact hq.elim
    | [m], hm, hq =>
      simp only [marks] at hm
      split at hm
      · rename_i p l hp hl
        simp only [Option.some.injEq] at hl hm
        subst hl
        rw [← hm]
        simp only at hq
        obtain ⟨⟨rb, hob⟩, hq⟩ := hq
        obtain ⟨o1, o2, o3⟩ := hs.rel.obj _ _ p hob hp
        refine ⟨by simp, .inl ⟨p.blk, _, rfl, run_takeDeferred o2, ?_⟩⟩
        have hs2 : St base ρ' env (H'.set m .dead) { tmps := a1.tmps, defers := [] } (w1.putObj p.blk (.deferred none)) af.nt :=
          ⟨hs.rel.put hob hp rfl rfl rfl rfl (by simp) (fun k hk => World.putObj_heap_other hk) trivial, hs.size, hs.val, rfl⟩
        split at hq
        · rename_i vs hvs
          obtain ⟨V, e1, e2⟩ := results_sound hR hs2 h5 hvs
          exact ⟨V, e2, resV vs, V, ρ', _, rfl, hx, hs2.rel, e1, hq⟩
        · exact hq.elim
      · cases hm
    | _ :: _ :: _, hm, hq => exact hq.elim
  cases ex with
  | normal => exact key (by simpa only [AQR, QRetR] using hh)
  | ret => exact key (by simpa only [AQR, QRetR] using hh)
  | exit id => simp only [AQR, QRetR] at hh; obtain ⟨_, _, _, _, _, _, _, hh⟩ := hh; exact hh.elim
  | goto l => exact hh.elim
  | panic ch => exact hh.elim
  | outgrown => exact hh.elim
/-- Code that is walked in a plain frame. -/
theorem AWpR.of_AWp {nt : Nat} {ac : AC} {Q : Exit → List Nat → Env → AH → Prop} {env : Env} {H : AH} (h : AWp P R nt ac (fun ex e H => Q ex [] e H) env H) : AWpR P R none [] nt ac Q env H := by
  intro c hc base hR ρ w tm ds hd hs
  simp only [marks, Option.some.injEq] at hd
  subst hd
  refine wpIn_wide.2 (wp_mono (h c hc base hR ρ _ w hs) fun ex a w1 hh => ?_)
  cases ex <;> simp only [AQ, AQR] at hh ⊢
  all_goals
    obtain ⟨r, e, H', h1, h2, h3⟩ := hh
    refine ⟨r, e, H', [], h1, ?_, ?_, h3⟩
    · have : a = { tmps := a.tmps, defers := [] } := by have := h2.defers; cases a; simp only at this; rw [this]
      rw [← this]; exact h2
    · rw [h2.defers]; rfl
end
/-! ### In one proposition -/
def callY (P : Program) (R : Ro) (v : AV) (args : List AV) (H : AH) (F : AV → AH → Prop) : Prop := match v with
  | .raw (.func (.yield l) a b) => a = #[] ∧ b = #[] ∧ YCall P R l args H F
  | v => callK P R (fnArgs v args) H F
@[simp] theorem callY_yield (P : Program) (R : Ro) (l : Nat) (args : List AV) (H : AH) (F : AV → AH → Prop) : callY P R (.raw (.func (.yield l) #[] #[])) args H F = YCall P R l args H F := by simp [callY]
@[simp] theorem callY_fn (P : Program) (R : Ro) (f : FuncId) (a b args : List AV) (H : AH) (F : AV → AH → Prop) : callY P R (.fn (.func f) a b) args H F = (bodied P f = true ∧ ACalls P R f (a ++ args ++ b) H F) := by simp [callY, fnArgs]
def QNormR (Q : Exit → List Nat → Env → AH → Prop) (ms : List Nat) (e : Env) (H : AH) : Prop := Q .normal ms e H
section
variable (P : Program) (R : Ro) (nt : Nat) (ro : Option Nat)
def stepYS (o : AOper) (K : Env → AH → Prop) (e : Env) (H : AH) : Prop :=
  match o.op with
  | .callv x xs => callY P R (x.ev e) (xs.map (X.ev e)) H (Kont o.dst K e)
  | _ => stepS P R o K e H
def runYS : List AOper → (Env → AH → Prop) → Env → AH → Prop
  | [], K, e, H => K e H
  | o :: os, K, e, H => guardK (wantedA o e) (stepYS P R o (runYS os K)) (undefK o.dst (runYS os K)) e H
theorem YCall.mono {l : Nat} {args : List AV} {H : AH} {K K' : AV → AH → Prop} (h : YCall P R l args H K) (hk : ∀ v H', K v H' → K' v H') : YCall P R l args H K' := fun base hR ρ w Vs hr hV => by
  obtain ⟨fn, tmps, a, b, h1, h2⟩ := h base hR ρ w Vs hr hV
  exact ⟨fn, tmps, a, b, h1, h2.mono fun e w' ⟨v, V, ρ', H', q1, q2, q3, q4, q5⟩ => ⟨v, V, ρ', H', q1, q2, q3, q4, hk _ _ q5⟩⟩
theorem stepYS_imp {o : AOper} {K K' : Env → AH → Prop} (hk : ∀ e H, K e H → K' e H) {e : Env} {H : AH} (h : stepYS P R o K e H) : stepY P R o K' e H := by
  unfold stepYS at h
  unfold stepY
  split at h
  · rename_i x xs hop
    unfold callY at h
    split at h
    · rename_i l a b hx
      exact ⟨h.1, h.2.1, YCall.mono P R h.2.2 fun v H' => hk _ _⟩
    · rename_i hno
      have h2 : stepOp P R o K' e H := by
        refine stepS_imp P R hk ?_
        unfold stepS
        rw [hop]
        exact h
      exact h2
  · rename_i hno
    exact stepS_imp P R hk h
theorem runYS_imp : ∀ {os : List AOper} {K : Env → AH → Prop} {e : Env} {H : AH}, runYS P R os K e H → runY P R os K e H
  | [], K, e, H, h => h
  | o :: os, K, e, H, h => by
    simp only [runYS, guardK] at h
    simp only [runY]
    split at h
    · rename_i hw; rw [hw]; exact stepYS_imp P R (fun e H => runYS_imp) h
    · rename_i hw; rw [hw]; exact runYS_imp h
    · exact h.elim
def wpR : AC → (Exit → List Nat → Env → AH → Prop) → List Nat → Env → AH → Prop
  | .skip, Q, ms, e, H => Q .normal ms e H
  | .exit id, Q, ms, e, H => Q (.exit id) ms e H
  | .ret, Q, ms, e, H => Q .ret ms e H
  | .bad, _, _, _, _ => False
  | .seq x y, Q, ms, e, H => wpR x (QThenR (wpR y Q) Q) ms e H
  | .cond x a b, Q, ms, e, H => condK (x.ev e) (wpR a Q ms) (wpR b Q ms) e H
  | .block id x, Q, ms, e, H => wpR x (QBlockR id Q) ms e H
  | .ops l, Q, ms, e, H => runYS P R l (QNormR Q ms) e H
  | .loop x, Q, ms, e, H => AWpR P R ro ms nt (.loop x) Q e H
  | .rangeF g ps a b, Q, ms, e, H => AWpR P R ro ms nt (.rangeF g ps a b) Q e H
  | .draw ds B, Q, ms, e, H => AWpR P R ro ms nt (.draw ds B) Q e H
end
section
variable {P : Program} {R : Ro} {nt : Nat} {ro : Option Nat}
theorem wpR_sound : ∀ (ac : AC) {Q : Exit → List Nat → Env → AH → Prop} {ms : List Nat} {e : Env} {H : AH}, wpR P R nt ro ac Q ms e H → AWpR P R ro ms nt ac Q e H
  | .skip, _, _, _, _, h => AWpR.skip h
  | .exit _, _, _, _, _, h => AWpR.exit h
  | .ret, _, _, _, _, h => AWpR.ret h
  | .bad, _, _, _, _, h => h.elim
  | .seq x y, Q, _, _, _, h => AWpR.seq ((wpR_sound x h).mono fun ex ms e H hh => by
      cases ex with
      | normal => exact wpR_sound y hh
      | _ => exact hh)
  | .cond x a b, Q, ms, e, H, h => by
    simp only [wpR, condK] at h
    split at h
    · rename_i t hx
      exact AWpR.cond hx (fun h0 => wpR_sound a (h.1 h0)) (fun h0 => wpR_sound b (h.2 h0))
    · exact h.elim
  | .block id x, _, _, _, _, h => AWpR.block (wpR_sound x h)
  | .ops l, _, _, _, _, h => AWpR.ops (runYS_imp P R h)
  | .loop _, _, _, _, _, h => h
  | .rangeF _ _ _ _, _, _, _, _, h => h
  | .draw _ _, _, _, _, _, h => h
theorem ACalls.of_wpR {f : FuncId} {af : AFn} (hf : FnOk P f af) {args : List AV} {H : AH} {K : AV → AH → Prop} (hn : args.length ≤ af.nt) (h : wpR P R af.nt none af.body (QRetR R af.res K) [] (env0 args) H) : ACalls P R f args H K :=
  ACalls.of_bodyR hf hn (wpR_sound _ h)
@[simp] theorem QNormR_app (Q : Exit → List Nat → Env → AH → Prop) (ms : List Nat) (e : Env) (H : AH) : QNormR Q ms e H = Q .normal ms e H := of_eq_true (eq_self _)
@[simp] theorem QThenR_normal (K : List Nat → Env → AH → Prop) (Q : Exit → List Nat → Env → AH → Prop) (ms : List Nat) (e : Env) (H : AH) : QThenR K Q .normal ms e H = K ms e H := of_eq_true (eq_self _)
@[simp] theorem QThenR_ret (K : List Nat → Env → AH → Prop) (Q : Exit → List Nat → Env → AH → Prop) (ms : List Nat) (e : Env) (H : AH) : QThenR K Q .ret ms e H = Q .ret ms e H := of_eq_true (eq_self _)
@[simp] theorem QThenR_exit (K : List Nat → Env → AH → Prop) (Q : Exit → List Nat → Env → AH → Prop) (ms : List Nat) (e : Env) (H : AH) (i : Nat) : QThenR K Q (.exit i) ms e H = Q (.exit i) ms e H := of_eq_true (eq_self _)
@[simp] theorem QBlockR_normal (i : Nat) (Q : Exit → List Nat → Env → AH → Prop) (ms : List Nat) (e : Env) (H : AH) : QBlockR i Q .normal ms e H = Q .normal ms e H := of_eq_true (eq_self _)
@[simp] theorem QBlockR_ret (i : Nat) (Q : Exit → List Nat → Env → AH → Prop) (ms : List Nat) (e : Env) (H : AH) : QBlockR i Q .ret ms e H = Q .ret ms e H := of_eq_true (eq_self _)
@[simp] theorem QBlockR_exit (i j : Nat) (Q : Exit → List Nat → Env → AH → Prop) (ms : List Nat) (e : Env) (H : AH) : QBlockR i Q (.exit j) ms e H = if j = i then Q .normal ms e H else Q (.exit j) ms e H := of_eq_true (eq_self _)
@[simp] theorem runYS_nil (K : Env → AH → Prop) (e : Env) (H : AH) : runYS P R [] K e H = K e H := of_eq_true (eq_self _)
@[simp] theorem runYS_cons (o : AOper) (os : List AOper) (K : Env → AH → Prop) (e : Env) (H : AH) : runYS P R (o :: os) K e H = guardK (wantedA o e) (stepYS P R o (runYS P R os K)) (undefK o.dst (runYS P R os K)) e H := of_eq_true (eq_self _)
@[simp] theorem stepYS_app (o : AOper) (K : Env → AH → Prop) (e : Env) (H : AH) : stepYS P R o K e H = match o.op with
  | .callv x xs => callY P R (x.ev e) (xs.map (X.ev e)) H (Kont o.dst K e)
  | _ => stepS P R o K e H := of_eq_true (eq_self _)
@[simp] theorem wpR_skip (Q : Exit → List Nat → Env → AH → Prop) (ms : List Nat) (e : Env) (H : AH) : wpR P R nt ro .skip Q ms e H = Q .normal ms e H := of_eq_true (eq_self _)
@[simp] theorem wpR_exit (i : Nat) (Q : Exit → List Nat → Env → AH → Prop) (ms : List Nat) (e : Env) (H : AH) : wpR P R nt ro (.exit i) Q ms e H = Q (.exit i) ms e H := of_eq_true (eq_self _)
@[simp] theorem wpR_ret (Q : Exit → List Nat → Env → AH → Prop) (ms : List Nat) (e : Env) (H : AH) : wpR P R nt ro .ret Q ms e H = Q .ret ms e H := of_eq_true (eq_self _)
@[simp] theorem wpR_seq (x y : AC) (Q : Exit → List Nat → Env → AH → Prop) (ms : List Nat) (e : Env) (H : AH) : wpR P R nt ro (.seq x y) Q ms e H = wpR P R nt ro x (QThenR (wpR P R nt ro y Q) Q) ms e H := of_eq_true (eq_self _)
@[simp] theorem wpR_cond (x : X) (a b : AC) (Q : Exit → List Nat → Env → AH → Prop) (ms : List Nat) (e : Env) (H : AH) : wpR P R nt ro (.cond x a b) Q ms e H = condK (x.ev e) (wpR P R nt ro a Q ms) (wpR P R nt ro b Q ms) e H := of_eq_true (eq_self _)
@[simp] theorem wpR_block (i : Nat) (x : AC) (Q : Exit → List Nat → Env → AH → Prop) (ms : List Nat) (e : Env) (H : AH) : wpR P R nt ro (.block i x) Q ms e H = wpR P R nt ro x (QBlockR i Q) ms e H := of_eq_true (eq_self _)
@[simp] theorem wpR_ops (l : List AOper) (Q : Exit → List Nat → Env → AH → Prop) (ms : List Nat) (e : Env) (H : AH) : wpR P R nt ro (.ops l) Q ms e H = runYS P R l (QNormR Q ms) e H := of_eq_true (eq_self _)
@[simp] theorem wpR_loop (x : AC) (Q : Exit → List Nat → Env → AH → Prop) (ms : List Nat) (e : Env) (H : AH) : wpR P R nt ro (.loop x) Q ms e H = AWpR P R ro ms nt (.loop x) Q e H := of_eq_true (eq_self _)
@[simp] theorem wpR_range (g : X) (ps : List Nat) (a b : AC) (Q : Exit → List Nat → Env → AH → Prop) (ms : List Nat) (e : Env) (H : AH) : wpR P R nt ro (.rangeF g ps a b) Q ms e H = AWpR P R ro ms nt (.rangeF g ps a b) Q e H := of_eq_true (eq_self _)
@[simp] theorem QRetR_nil (res : List RX) (K : AV → AH → Prop) (e : Env) (H : AH) : QRetR R res K .ret [] e H = match resE R e H res with
  | some vs => K (resV vs) H
  | none => False := of_eq_true (eq_self _)
@[simp] theorem QRetR_one (res : List RX) (K : AV → AH → Prop) (m : Nat) (e : Env) (H : AH) : QRetR R res K .ret [m] e H = ((∃ rb, H[m]? = some (.obj rb (.deferred (some [])) [] [])) ∧ match resE R e (H.set m .dead) res with
  | some vs => K (resV vs) (H.set m .dead)
  | none => False) := of_eq_true (eq_self _)
end
end Am
namespace Am
open Go Go.RowKit
/-- A call that hands back one new growing row, whose cells name no block, and has left what was there: all else that it has made is forgotten. -/
theorem ACalls.pickNew {P : Program} {R : Ro} {f : FuncId} {args : List AV} {H : AH} {k sz : Nat} {t : TypeId} {D : List AV} (hD : (renL [] D).isSome = true)
    (h : ACalls P R f args H fun v G => (∀ i, i < H.length → G[i]? = H[i]?) ∧ ∃ r, H.length ≤ r ∧ v = .slice (.mu r) 0 k (.opn 0) ∧ G[r]? = some (.row D t sz)) :
    ACalls P R f args H fun v G => v = .slice (.mu H.length) 0 k (.opn 0) ∧ G = H ++ [.row D t sz] := by
  intro base hR ρ w Vs hrel hV
  refine (h base hR ρ w Vs hrel hV).mono ?_
  rintro e w' ⟨v, V, ρ', G, rfl, hx, hr', hv, hfr, r, hrl, rfl, hG⟩
  obtain ⟨q, hq⟩ := hr'.slot hG
  obtain ⟨L, hL⟩ := Option.isSome_iff_exists.1 hD
  have hxn : ∀ ρ : Ren, renL ρ D = some L := fun ρ => renL_ext ⟨ρ, by simp⟩ hL
  obtain ⟨C, cs, a1, a2, a3, a4, a5⟩ := hr'.obj _ _ q hG hq
  rw [hxn ρ'] at a2; cases a2
  have hok : okO (ρ ++ [q]) w' q (.row D t sz) := ⟨C, _, a1, hxn _, a3, a4, a5⟩
  have hj : H.length ≤ H.length := Nat.le_refl _
  have hp := hrel.pick hr' hx (j := H.length) (r := r) (fun i hi _ => hfr i hi) hG rfl hq (.inr hrl) hok
  have hset : H.set H.length .dead = H := List.set_eq_of_length_le (Nat.le_refl _)
  rw [hset] at hp
  refine ⟨_, V, ρ ++ [q], _, rfl, Ext.mk _ _, hp, ?_, rfl, rfl⟩
  have hle := hrel.len
  have e : (ρ ++ [q])[H.length]? = some q := by rw [List.getElem?_append_right (by omega), hle]; simp
  simp [ren, Loc.addr, Cap.num, hq] at hv
  rw [← hv]
  simp [ren, Loc.addr, Cap.num, e]
end Am
