/- A region that draws its order, worked through in one order that is told: whatever only looks as it stands, one effect at a time. -/
import Derived.Test.YtbcfhiohdamcjaaAmSym
import Derived.Test.YtbcfhiohdamcjaaAmRun3
set_option linter.unusedSimpArgs false
set_option linter.unusedVariables false
set_option linter.unusedSectionVars false
set_option linter.unnecessarySimpa false
namespace Am
open Go Go.RowKit
/-- Whether what an operation yields hangs on what may change. -/
def heapy (op : AOp) (e : Env) : Bool := match op with
  | .load _ a => match a.ev e with
    | .ptr (.ro _) _ => false
    | _ => true
  | .mv _ | .pick _ _ _ | .nilck _ | .bin _ _ _ | .eq _ _ _ _ _ | .un _ _ | .convI _ _ | .addr _ _ | .iaddrS _ _ _ | .iaddrA _ _ _ _ | .ext _ _ | .lenL _ | .lenS _ | .fn _ _ _ => false
  | _ => true
theorem eval_still {P : Program} {R : Ro} {op : AOp} {e : Env} (h : heapy op e = false) {H H1 : AH} {v : AV} (hev : op.eval P R e H = some (v, H1)) (H' : AH) : op.eval P R e H' = some (v, H') := by
  cases op <;> first
    | (exact absurd (show true = false from h) (by decide))
    | skip
  case load n a =>
    simp only [heapy] at h
    unfold AOp.eval at hev ⊢
    dsimp only at hev ⊢
    split at h
    · rename_i b o hb
      rw [hb] at hev ⊢
      cases n with
      | none =>
        simp only [read1, Option.map_eq_some_iff, Prod.mk.injEq] at hev ⊢
        obtain ⟨a1, h1, h2, h3⟩ := hev
        exact ⟨a1, h1, h2, trivial⟩
      | some k =>
        simp only [readN, Option.map_eq_some_iff, Prod.mk.injEq] at hev ⊢
        obtain ⟨a1, h1, h2, h3⟩ := hev
        exact ⟨a1, h1, h2, trivial⟩
    · cases h
  all_goals unfold AOp.eval at hev ⊢; dsimp only at hev ⊢
  all_goals first
    | (simp only [Option.some.injEq, Prod.mk.injEq] at hev ⊢; exact ⟨hev.1, trivial⟩)
    | (simp only [Option.map_eq_some_iff, Prod.mk.injEq] at hev ⊢; obtain ⟨x, h1, h2, h3⟩ := hev; exact ⟨x, h1, h2, rfl⟩)
    | (repeat' split at hev
       all_goals first
         | (simp at hev; done)
         | (simp only [Option.some.injEq, Prod.mk.injEq] at hev; obtain ⟨rfl, rfl⟩ := hev; simp_all; done)
         | (simp only [Option.map_eq_some_iff, Prod.mk.injEq] at hev; obtain ⟨x, h1, rfl, rfl⟩ := hev; simp_all; done))

def schedOk (l : List DOper) : List Nat → List Nat → Bool
  | [], done => (readyA l done).isEmpty
  | i :: s, done => (readyA l done).contains i && (match l[i]? with
    | some d => d.o.op.quiet || readyA l done == [i]
    | none => false) && schedOk l s (i :: done)
section
variable (P : Program) (R : Ro)
def putK (d : DOper) (T : List (Nat × Held)) (i : Nat) (e : Env) (v : AV) (F : List (Nat × Held) → Env → AH → Prop) (H : AH) : Prop :=
  F (if heapy d.o.op e then (i, ⟨d.o, e, v⟩) :: T else T) (e.put d.o.dst v) H
def effK (T : List (Nat × Held)) (F : List (Nat × Held) → Env → AH → Prop) (e : Env) (H : AH) : Prop := (∀ x ∈ T, recheck P R x.2 H) ∧ F T e H
def quietK (d : DOper) (T : List (Nat × Held)) (i : Nat) (F : List (Nat × Held) → Env → AH → Prop) (e : Env) (H : AH) : Prop :=
  bindK (d.o.op.eval P R e H) fun v _ => putK d T i e v F H
/-- What stays held behind effect 'i'. -/
def keepF (B : List Nat) (T : List (Nat × Held)) (i : Nat) : List (Nat × Held) := T.filter fun x => decide ((B[i]?.getD 0) / 2 ^ x.1 % 2 = 0)
def execS (l : List DOper) (B : List Nat) (K : Env → AH → Prop) : List Nat → List (Nat × Held) → Env → AH → Prop
  | [], _, e, H => K e H
  | i :: s, T, e, H => match l[i]? with
    | none => False
    | some d => guardK (wantedA d.o e)
        (match d.o.op.quiet with
          | true => quietK P R d T i (execS l B K s)
          | false => stepS P R d.o (effK P R (keepF B T i) (execS l B K s)))
        (undefK d.o.dst (execS l B K s T)) e H
end
section
variable {P : Program} {R : Ro} {nt : Nat} {ops : Array Oper} {l : List DOper} {B : List Nat} {K : Env → AH → Prop}
theorem keepF_eq (T : List (Nat × Held)) {i : Nat} (h : effA l i = true) : keepT (effA l) B T i = keepF B T i := by
  unfold keepT keepF
  rw [if_pos h]
  congr 1
  funext x
  unfold indep
  rw [Nat.testBit_eq_decide_div_mod_eq, List.getD_eq_getElem?_getD]
  generalize (B[i]?.getD 0) / 2 ^ x.1 = z
  have : z % 2 < 2 := Nat.mod_lt _ (by decide)
  rcases Nat.lt_or_ge (z % 2) 1 with h | h
  · have : z % 2 = 0 := by omega
    simp [this]
  · have : z % 2 = 1 := by omega
    simp [this]
theorem keepT_or {p : Nat × Held → Prop} {T T' : List (Nat × Held)} (h : ∀ x ∈ T', x ∈ T ∨ p x) (i : Nat) : ∀ x ∈ keepT (effA l) B T' i, x ∈ keepT (effA l) B T i ∨ p x := by
  intro x hx
  unfold keepT at *
  split at hx
  · rename_i he
    rw [if_pos he]
    rw [List.mem_filter] at hx ⊢
    rcases h x hx.1 with h1 | h1
    · exact .inl ⟨h1, hx.2⟩
    · exact .inr h1
  · rename_i he; rw [if_neg he]; exact h x hx
theorem execS_sound {base : World} (hR : ROk R base) (hd : drawC P ops nt = some (.draw l B)) {Q : Exit → Act → World → Prop} {ρ0 : Ren} (hQ : ∀ ρ e H a w, Ext ρ0 ρ → St base ρ e H a w nt → K e H → Q .normal a w) (hQp : ∀ c a w, Q (.panic c) a w → False) :
    ∀ (s done : List Nat) (_ : schedOk l s done = true) (T0 T : List (Nat × Held)) (e : Env) (H : AH), execS P R l B K s T0 e H → (∀ x ∈ T, x ∈ T0 ∨ ∀ H, recheck P R x.2 H) → ∀ (ρ : Ren) (a : Act) (w : World) (listed : Array Bool) (Tr : List (Nat × (World → Prop))), Ext ρ0 ρ → St base ρ e H a w nt → HRels P ρ T Tr →
      (∀ y ∈ Tr, y.2 w) → Closed .any ops listed → Listed ops listed done → wpAnyX P .any ops Q (effA l) B s.length Tr listed a w := by
  obtain ⟨hl, hpre, hB, hbp, hns, hfree⟩ := drawC_inv hd
  have hBok := BOk_of hB hbp
  have hlen : l.length = ops.size := by have := opersC_length hl; simpa using this
  have hget : ∀ (i : Nat) (d : DOper), l[i]? = some d → ∃ o, ops[i]? = some o ∧ operC P ops nt o = some d.o := by
    intro i d hi
    have hlt := (List.getElem?_eq_some_iff.1 hi).1
    have ho : ops.toList[i]? = some (ops[i]'(by omega)) := by simp [show i < ops.size from by omega]
    obtain ⟨ao, h1, h2⟩ := opersC_get hl i _ ho
    rw [List.getElem?_map, hi] at h1
    simp at h1
    exact ⟨_, Array.getElem?_eq_getElem (by omega), by rw [h1]; exact h2⟩
  intro s
  induction s with
  | nil =>
    intro done hsch T0 T e H hk hT0 ρ a w listed Tr hx hs hT hhold hcl hli
    simp only [schedOk, List.isEmpty_iff] at hsch
    exact ⟨by rw [ready_eq hl hpre hbp hli]; exact hsch, hQ ρ e H a w hx hs hk⟩
  | cons i s ih =>
    intro done hsch T0 T e H hk hT0 ρ a w listed Tr hx hs hT hhold hcl hli
    have hready := ready_eq hl hpre hbp hli
    simp only [schedOk, Bool.and_eq_true] at hsch
    obtain ⟨⟨hin, hone⟩, hsch⟩ := hsch
    have hir : i ∈ readyA l done := by simpa using hin
    have hir' : i ∈ Region.ready .any ops listed := by rw [hready]; exact hir
    simp only [execS] at hk
    split at hk
    · exact hk.elim
    rename_i d hdi
    rw [hdi] at hone
    dsimp only at hone
    obtain ⟨o, ho, hc⟩ := hget i d hdi
    obtain ⟨hco, hg, hdd, hdst⟩ := operC_inv hc
    have hfr : ∀ j oj, ops[j]? = some oj → j ≠ i → listed.getD j true = false → (∀ e ∈ oj.after, Region.binds .any e = true → e.on ≠ i) → o.apart ops oj = true := by
      intro j oj hj hji hun hw
      refine free_of hfree ho hj hji hw ?_
      have := indep_of_ready hBok hcl hir' (getD_true_false hun)
      unfold indep at this
      simpa using this
    unfold guardK at hk
    split at hk
    · rename_i hw
      cases hq : d.o.op.quiet with
      | true =>
        -- it only looks
        rw [hq] at hk
        dsimp only at hk
        unfold quietK bindK putK at hk
        split at hk
        · rename_i v H' hev
          obtain ⟨rfl, x, hrun, hxv⟩ := (op_sound hR hs.rel hs.ev (op_of_eval hco hev) hev).2 hq
          refine wpAnyX_first (S := fun w => (execOp a.eval o).run P w = .ok (.value x) w) (v := x) hBok ho (Region.noSelect_spec hns) (fun c a w h => (hQp _ _ _ h).elim) s.length Tr listed a w hcl hfr hir' (.inl ⟨wanted_sound hs hc hw, fun w h => h⟩) hrun hhold ?_
          rw [hdst] at hk
          refine ih (i :: done) hsch _ ((i, ⟨d.o, e, v⟩) :: T) _ _ hk ?_ ρ _ w _ _ hx (hs.put hs.rel (Ext.refl _) hdd hxv) (.cons ⟨rfl, o, a, x, op_of_eval hco hev, hq, hs.ev, hxv, rfl⟩ hT) ?_ (closed_set hcl hir') (listed_set hli i)
          · intro y hy
            rcases List.mem_cons.1 hy with rfl | hy
            · split
              · exact .inl (List.mem_cons_self ..)
              · rename_i hh
                right
                intro H1
                exact eval_still (by simpa using hh) hev H1
            · rcases hT0 y hy with h1 | h1
              · left
                split
                · exact List.mem_cons_of_mem _ h1
                · exact h1
              · exact .inr h1
          · intro y hy
            rcases List.mem_cons.1 hy with rfl | hy
            · exact hrun
            · exact hhold y hy
        · exact hk.elim
      | false =>
        -- one effect
        rw [hq] at hk
        rw [hq, Bool.false_or] at hone
        have hone' : readyA l done = [i] := by simpa using hone
        refine ⟨fun h0 => (by rw [hready, hone'] at h0; cases h0), fun j hj => ?_⟩
        rw [hready, hone'] at hj
        obtain rfl : j = i := by simpa using hj
        unfold wpOp
        rw [ho]
        dsimp only
        rw [if_pos (wanted_sound hs hc hw)]
        left
        refine Oper.wp_mono (fun a' w' hh => ?_) (step_sound (Q := Q) hR hs hc (stepS_imp P R (fun _ _ h => h) hk))
        obtain ⟨ρ', e', H', hx', hs', hre, hk'⟩ := hh
        have hT' := (hT.ext hx').keep (B := B) (eff := effA l) j
        have heff : effA l j = true := by unfold effA; rw [hdi]; dsimp only; rw [hq]; rfl
        have hT0' := keepT_or (l := l) (B := B) hT0 j
        rw [keepF_eq T0 heff] at hT0'
        have hhold' := hT'.hold hR hs'.rel (fun x hx => (hT0' x hx).elim (fun h => hre x h) (fun h => h H'))
        exact ⟨hhold', ih (j :: done) hsch _ _ _ _ hk' hT0' ρ' a' w' _ _ (hx.trans hx') hs' hT' hhold' (closed_set hcl hir') (listed_set hli j)⟩
    · rename_i hw
      refine wpAnyX_first (S := fun _ => True) (v := Go.undef) hBok ho (Region.noSelect_spec hns) (fun c a w h => (hQp _ _ _ h).elim) s.length Tr listed a w hcl hfr hir' (.inr ⟨wanted_sound hs hc hw, rfl⟩) trivial hhold ?_
      unfold undefK at hk
      rw [hdst] at hk
      have hs' := hs.put hs.rel (Ext.refl _) hdd (v := AV.undef) (x := Go.undef) rfl
      exact wpAnyX_true i s.length _ _ _ _ (ih (i :: done) hsch T0 T _ H hk hT0 ρ _ w (listed.setIfInBounds i true) Tr hx hs' hT hhold (closed_set hcl hir') (listed_set hli i))
    · exact hk.elim
theorem AWp.sched {Q : Exit → Env → AH → Prop} {env : Env} {H : AH} (s : List Nat) (hm : P.follows .mixedOrders = true) (hs : (schedOk l s [] && s.length == l.length) = true) (h : execS P R l B (QNorm Q) s [] env H) : AWp P R nt (.draw l B) Q env H := by
  intro c hc base hR ρ a w hst
  obtain ⟨id, ops, rfl, hd⟩ := compC_inv hc
  simp only [Bool.and_eq_true, beq_iff_eq] at hs
  have hlen : l.length = ops.size := by
    obtain ⟨hl, _⟩ := drawC_inv hd
    have := opersC_length hl; simpa using this
  refine wp_region_X (eff := effA l) (B := B) hm ?_
  rw [← hlen, ← hs.2]
  refine execS_sound hR hd (Q := AQ Q base ρ nt) (ρ0 := ρ) (fun ρ' e' H' a' w' hx hs' hk => ⟨ρ', e', H', hx, hs', hk⟩) (fun _ _ _ h => h) s [] hs.1 [] [] env H h (fun x hx => by cases hx) ρ a _ _ [] (Ext.refl _) (hst.ext _) .nil (fun y hy => by cases hy) ?_ ?_
  · intro j o hj hl e he hb
    rw [hs.2, hlen] at hl
    simp only [Array.getD_eq_getD_getElem?, Array.getElem?_replicate] at hl
    split at hl <;> simp at hl
  · refine ⟨by simp [hlen, hs.2], fun j hj => ?_⟩
    simp [hlen, hs.2, hj]
end
/-- An order told as a tree: where two effects may come up, one order behind each. -/
inductive ST where
  | nil
  | one (i : Nat) (s : ST)
  | two (i j : Nat) (s t : ST)
def ST.len : ST → Nat
  | .nil => 0
  | .one _ s => s.len + 1
  | .two _ _ s _ => s.len + 1
def treeOk (l : List DOper) : ST → List Nat → Bool
  | .nil, done => (readyA l done).isEmpty
  | .one i s, done => (readyA l done).contains i && (match l[i]? with
    | some d => d.o.op.quiet || readyA l done == [i]
    | none => false) && treeOk l s (i :: done)
  | .two i j s t, done => readyA l done == [i, j] && (match l[i]? with | some d => !d.o.op.quiet | none => false) && (match l[j]? with | some d => !d.o.op.quiet | none => false) && s.len == t.len && treeOk l s (i :: done) && treeOk l t (j :: done)
def oneK (P : Program) (R : Ro) (l : List DOper) (B : List Nat) (i : Nat) (T : List (Nat × Held)) (F : List (Nat × Held) → Env → AH → Prop) (e : Env) (H : AH) : Prop := match l[i]? with
    | none => False
    | some d => guardK (wantedA d.o e)
        (match d.o.op.quiet with
          | true => quietK P R d T i F
          | false => stepS P R d.o (effK P R (keepF B T i) F))
        (undefK d.o.dst (F T)) e H
def effOne (P : Program) (R : Ro) (l : List DOper) (B : List Nat) (i : Nat) (T : List (Nat × Held)) (F : List (Nat × Held) → Env → AH → Prop) (e : Env) (H : AH) : Prop := match l[i]? with
    | none => False
    | some d => wantedA d.o e = some true ∧ stepS P R d.o (effK P R (keepF B T i) F) e H
def execT (P : Program) (R : Ro) (l : List DOper) (B : List Nat) (K : Env → AH → Prop) : ST → List (Nat × Held) → Env → AH → Prop
  | .nil, _, e, H => K e H
  | .one i s, T, e, H => oneK P R l B i T (execT P R l B K s) e H
  | .two i j s t, T, e, H => effOne P R l B i T (execT P R l B K s) e H ∧ effOne P R l B j T (execT P R l B K t) e H
section
variable {P : Program} {R : Ro} {nt : Nat} {ops : Array Oper} {l : List DOper} {B : List Nat} {K : Env → AH → Prop}
theorem execT_sound {base : World} (hR : ROk R base) (hd : drawC P ops nt = some (.draw l B)) {Q : Exit → Act → World → Prop} {ρ0 : Ren} (hQ : ∀ ρ e H a w, Ext ρ0 ρ → St base ρ e H a w nt → K e H → Q .normal a w) (hQp : ∀ c a w, Q (.panic c) a w → False) :
    ∀ (s : ST) (done : List Nat) (_ : treeOk l s done = true) (T0 T : List (Nat × Held)) (e : Env) (H : AH), execT P R l B K s T0 e H → (∀ x ∈ T, x ∈ T0 ∨ ∀ H, recheck P R x.2 H) → ∀ (ρ : Ren) (a : Act) (w : World) (listed : Array Bool) (Tr : List (Nat × (World → Prop))), Ext ρ0 ρ → St base ρ e H a w nt → HRels P ρ T Tr →
      (∀ y ∈ Tr, y.2 w) → Closed .any ops listed → Listed ops listed done → wpAnyX P .any ops Q (effA l) B s.len Tr listed a w := by
  obtain ⟨hl, hpre, hB, hbp, hns, hfree⟩ := drawC_inv hd
  have hBok := BOk_of hB hbp
  have hlen : l.length = ops.size := by have := opersC_length hl; simpa using this
  have hget : ∀ (i : Nat) (d : DOper), l[i]? = some d → ∃ o, ops[i]? = some o ∧ operC P ops nt o = some d.o := by
    intro i d hi
    have hlt := (List.getElem?_eq_some_iff.1 hi).1
    have ho : ops.toList[i]? = some (ops[i]'(by omega)) := by simp [show i < ops.size from by omega]
    obtain ⟨ao, h1, h2⟩ := opersC_get hl i _ ho
    rw [List.getElem?_map, hi] at h1
    simp at h1
    exact ⟨_, Array.getElem?_eq_getElem (by omega), by rw [h1]; exact h2⟩
  intro s
  induction s with
  | nil =>
    intro done hsch T0 T e H hk hT0 ρ a w listed Tr hx hs hT hhold hcl hli
    simp only [treeOk, List.isEmpty_iff] at hsch
    exact ⟨by rw [ready_eq hl hpre hbp hli]; exact hsch, hQ ρ e H a w hx hs hk⟩
  | one i s ih =>
    intro done hsch T0 T e H hk hT0 ρ a w listed Tr hx hs hT hhold hcl hli
    have hready := ready_eq hl hpre hbp hli
    simp only [treeOk, Bool.and_eq_true] at hsch
    obtain ⟨⟨hin, hone⟩, hsch⟩ := hsch
    have hir : i ∈ readyA l done := by simpa using hin
    have hir' : i ∈ Region.ready .any ops listed := by rw [hready]; exact hir
    simp only [execT, oneK] at hk
    split at hk
    · exact hk.elim
    rename_i d hdi
    rw [hdi] at hone
    dsimp only at hone
    obtain ⟨o, ho, hc⟩ := hget i d hdi
    obtain ⟨hco, hg, hdd, hdst⟩ := operC_inv hc
    have hfr : ∀ j oj, ops[j]? = some oj → j ≠ i → listed.getD j true = false → (∀ e ∈ oj.after, Region.binds .any e = true → e.on ≠ i) → o.apart ops oj = true := by
      intro j oj hj hji hun hw
      refine free_of hfree ho hj hji hw ?_
      have := indep_of_ready hBok hcl hir' (getD_true_false hun)
      unfold indep at this
      simpa using this
    unfold guardK at hk
    split at hk
    · rename_i hw
      cases hq : d.o.op.quiet with
      | true =>
        -- it only looks
        rw [hq] at hk
        dsimp only at hk
        unfold quietK bindK putK at hk
        split at hk
        · rename_i v H' hev
          obtain ⟨rfl, x, hrun, hxv⟩ := (op_sound hR hs.rel hs.ev (op_of_eval hco hev) hev).2 hq
          refine wpAnyX_first (S := fun w => (execOp a.eval o).run P w = .ok (.value x) w) (v := x) hBok ho (Region.noSelect_spec hns) (fun c a w h => (hQp _ _ _ h).elim) s.len Tr listed a w hcl hfr hir' (.inl ⟨wanted_sound hs hc hw, fun w h => h⟩) hrun hhold ?_
          rw [hdst] at hk
          refine ih (i :: done) hsch _ ((i, ⟨d.o, e, v⟩) :: T) _ _ hk ?_ ρ _ w _ _ hx (hs.put hs.rel (Ext.refl _) hdd hxv) (.cons ⟨rfl, o, a, x, op_of_eval hco hev, hq, hs.ev, hxv, rfl⟩ hT) ?_ (closed_set hcl hir') (listed_set hli i)
          · intro y hy
            rcases List.mem_cons.1 hy with rfl | hy
            · split
              · exact .inl (List.mem_cons_self ..)
              · rename_i hh
                right
                intro H1
                exact eval_still (by simpa using hh) hev H1
            · rcases hT0 y hy with h1 | h1
              · left
                split
                · exact List.mem_cons_of_mem _ h1
                · exact h1
              · exact .inr h1
          · intro y hy
            rcases List.mem_cons.1 hy with rfl | hy
            · exact hrun
            · exact hhold y hy
        · exact hk.elim
      | false =>
        -- one effect
        rw [hq] at hk
        rw [hq, Bool.false_or] at hone
        have hone' : readyA l done = [i] := by simpa using hone
        refine ⟨fun h0 => (by rw [hready, hone'] at h0; cases h0), fun j hj => ?_⟩
        rw [hready, hone'] at hj
        obtain rfl : j = i := by simpa using hj
        unfold wpOp
        rw [ho]
        dsimp only
        rw [if_pos (wanted_sound hs hc hw)]
        left
        refine Oper.wp_mono (fun a' w' hh => ?_) (step_sound (Q := Q) hR hs hc (stepS_imp P R (fun _ _ h => h) hk))
        obtain ⟨ρ', e', H', hx', hs', hre, hk'⟩ := hh
        have hT' := (hT.ext hx').keep (B := B) (eff := effA l) j
        have heff : effA l j = true := by unfold effA; rw [hdi]; dsimp only; rw [hq]; rfl
        have hT0' := keepT_or (l := l) (B := B) hT0 j
        rw [keepF_eq T0 heff] at hT0'
        have hhold' := hT'.hold hR hs'.rel (fun x hx => (hT0' x hx).elim (fun h => hre x h) (fun h => h H'))
        exact ⟨hhold', ih (j :: done) hsch _ _ _ _ hk' hT0' ρ' a' w' _ _ (hx.trans hx') hs' hT' hhold' (closed_set hcl hir') (listed_set hli j)⟩
    · rename_i hw
      refine wpAnyX_first (S := fun _ => True) (v := Go.undef) hBok ho (Region.noSelect_spec hns) (fun c a w h => (hQp _ _ _ h).elim) s.len Tr listed a w hcl hfr hir' (.inr ⟨wanted_sound hs hc hw, rfl⟩) trivial hhold ?_
      unfold undefK at hk
      rw [hdst] at hk
      have hs' := hs.put hs.rel (Ext.refl _) hdd (v := AV.undef) (x := Go.undef) rfl
      exact wpAnyX_true i s.len _ _ _ _ (ih (i :: done) hsch T0 T _ H hk hT0 ρ _ w (listed.setIfInBounds i true) Tr hx hs' hT hhold (closed_set hcl hir') (listed_set hli i))
    · exact hk.elim
  | two i j s t ih1 ih2 =>
    intro done hsch T0 T e H hk hT0 ρ a w listed Tr hx hs hT hhold hcl hli
    have hready := ready_eq hl hpre hbp hli
    simp only [treeOk, Bool.and_eq_true] at hsch
    obtain ⟨⟨⟨⟨⟨hrd, hqi⟩, hqj⟩, hlen2⟩, hs1⟩, hs2⟩ := hsch
    have hrd' : readyA l done = [i, j] := by simpa using hrd
    have hlen2' : s.len = t.len := by simpa using hlen2
    have one : ∀ (k : Nat) (u : ST), k ∈ readyA l done → (match l[k]? with | some d => !d.o.op.quiet | none => false) = true → treeOk l u (k :: done) = true → u.len = s.len →
        (∀ (done : List Nat) (_ : treeOk l u done = true) (T0 T : List (Nat × Held)) (e : Env) (H : AH), execT P R l B K u T0 e H → (∀ x ∈ T, x ∈ T0 ∨ ∀ H, recheck P R x.2 H) → ∀ (ρ : Ren) (a : Act) (w : World) (listed : Array Bool) (Tr : List (Nat × (World → Prop))), Ext ρ0 ρ → St base ρ e H a w nt → HRels P ρ T Tr →
          (∀ y ∈ Tr, y.2 w) → Closed .any ops listed → Listed ops listed done → wpAnyX P .any ops Q (effA l) B u.len Tr listed a w) →
        effOne P R l B k T0 (execT P R l B K u) e H → wpOp P ops Q k (fun a' w' => (∀ x ∈ keepT (effA l) B Tr k, x.2 w') ∧ wpAnyX P .any ops Q (effA l) B s.len (keepT (effA l) B Tr k) (listed.setIfInBounds k true) a' w') a w := by
      intro k u hkr hq hsch hul ih hk
      unfold effOne at hk
      split at hk
      · exact hk.elim
      rename_i d hdi
      rw [hdi] at hq
      dsimp only at hq
      obtain ⟨hw, hk⟩ := hk
      obtain ⟨o, ho, hc⟩ := hget k d hdi
      have hkr' : k ∈ Region.ready .any ops listed := by rw [hready]; exact hkr
      unfold wpOp
      rw [ho]
      dsimp only
      rw [if_pos (wanted_sound hs hc hw)]
      left
      refine Oper.wp_mono (fun a' w' hh => ?_) (step_sound (Q := Q) hR hs hc (stepS_imp P R (fun _ _ h => h) hk))
      obtain ⟨ρ', e', H', hx', hs', hre, hk'⟩ := hh
      have hT' := (hT.ext hx').keep (B := B) (eff := effA l) k
      have heff : effA l k = true := by unfold effA; rw [hdi]; exact hq
      have hT0' := keepT_or (l := l) (B := B) hT0 k
      rw [keepF_eq T0 heff] at hT0'
      have hhold' := hT'.hold hR hs'.rel (fun x hx => (hT0' x hx).elim (fun h => hre x h) (fun h => h H'))
      refine ⟨hhold', ?_⟩
      rw [← hul]
      exact ih (k :: done) hsch _ _ _ _ hk' hT0' ρ' a' w' _ _ (hx.trans hx') hs' hT' hhold' (closed_set hcl hkr') (listed_set hli k)
    simp only [execT] at hk
    refine ⟨fun h0 => (by rw [hready, hrd'] at h0; cases h0), fun k hk2 => ?_⟩
    rw [hready, hrd'] at hk2
    simp at hk2
    rcases hk2 with rfl | rfl
    · exact one k s (by rw [hrd']; simp) hqi hs1 rfl ih1 hk.1
    · exact one k t (by rw [hrd']; simp) hqj hs2 hlen2'.symm ih2 hk.2
theorem AWp.tree {Q : Exit → Env → AH → Prop} {env : Env} {H : AH} (s : ST) (hm : P.follows .mixedOrders = true) (hs : (treeOk l s [] && s.len == l.length) = true) (h : execT P R l B (QNorm Q) s [] env H) : AWp P R nt (.draw l B) Q env H := by
  intro c hc base hR ρ a w hst
  obtain ⟨id, ops, rfl, hd⟩ := compC_inv hc
  simp only [Bool.and_eq_true, beq_iff_eq] at hs
  have hlen : l.length = ops.size := by
    obtain ⟨hl, _⟩ := drawC_inv hd
    have := opersC_length hl; simpa using this
  refine wp_region_X (eff := effA l) (B := B) hm ?_
  rw [← hlen, ← hs.2]
  refine execT_sound hR hd (Q := AQ Q base ρ nt) (ρ0 := ρ) (fun ρ' e' H' a' w' hx hs' hk => ⟨ρ', e', H', hx, hs', hk⟩) (fun _ _ _ h => h) s [] hs.1 [] [] env H h (fun x hx => by cases hx) ρ a _ _ [] (Ext.refl _) (hst.ext _) .nil (fun y hy => by cases hy) ?_ ?_
  · intro j o hj hl e he hb
    rw [hs.2, hlen] at hl
    simp only [Array.getD_eq_getD_getElem?, Array.getElem?_replicate] at hl
    split at hl <;> simp at hl
  · refine ⟨by simp [hlen, hs.2], fun j hj => ?_⟩
    simp [hlen, hs.2, hj]
@[simp] theorem execT_nil (e : Env) (H : AH) (T : List (Nat × Held)) : execT P R l B K .nil T e H = K e H := of_eq_true (eq_self _)
@[simp] theorem execT_one (i : Nat) (s : ST) (T : List (Nat × Held)) (e : Env) (H : AH) : execT P R l B K (.one i s) T e H = oneK P R l B i T (execT P R l B K s) e H := of_eq_true (eq_self _)
@[simp] theorem execT_two (i j : Nat) (s t : ST) (T : List (Nat × Held)) (e : Env) (H : AH) : execT P R l B K (.two i j s t) T e H = (effOne P R l B i T (execT P R l B K s) e H ∧ effOne P R l B j T (execT P R l B K t) e H) := of_eq_true (eq_self _)
@[simp] theorem oneK_app (i : Nat) (T : List (Nat × Held)) (F : List (Nat × Held) → Env → AH → Prop) (e : Env) (H : AH) : oneK P R l B i T F e H = match l[i]? with
    | none => False
    | some d => guardK (wantedA d.o e)
        (match d.o.op.quiet with
          | true => quietK P R d T i F
          | false => stepS P R d.o (effK P R (keepF B T i) F))
        (undefK d.o.dst (F T)) e H := of_eq_true (eq_self _)
@[simp] theorem effOne_app (i : Nat) (T : List (Nat × Held)) (F : List (Nat × Held) → Env → AH → Prop) (e : Env) (H : AH) : effOne P R l B i T F e H = match l[i]? with
    | none => False
    | some d => wantedA d.o e = some true ∧ stepS P R d.o (effK P R (keepF B T i) F) e H := of_eq_true (eq_self _)
/-- A region whose operations all only look. -/
theorem AWp.seqDraw {Q : Exit → Env → AH → Prop} {env : Env} {H : AH} (hm : P.follows .mixedOrders = true) (hs : seqOk l 0 = true) (h : runS P R (l.map DOper.o) (QNorm Q) env H) : AWp P R nt (.draw l B) Q env H := by
  refine AWp.draw hm (exec_seq (fun j d hd => ?_) l.length 0 [] [] env H (by simp) (fun j => by simp) ?_)
  · have := seqOk_ok hs j d hd
    simpa using this
  · rw [List.drop_zero]
    exact runS_imp P R h
@[simp] theorem execS_nil (e : Env) (H : AH) (T : List (Nat × Held)) : execS P R l B K [] T e H = K e H := of_eq_true (eq_self _)
@[simp] theorem execS_cons (i : Nat) (s : List Nat) (T : List (Nat × Held)) (e : Env) (H : AH) : execS P R l B K (i :: s) T e H = match l[i]? with
    | none => False
    | some d => guardK (wantedA d.o e)
        (match d.o.op.quiet with
          | true => quietK P R d T i (execS P R l B K s)
          | false => stepS P R d.o (effK P R (keepF B T i) (execS P R l B K s)))
        (undefK d.o.dst (execS P R l B K s T)) e H := of_eq_true (eq_self _)
@[simp] theorem quietK_app (d : DOper) (T : List (Nat × Held)) (i : Nat) (F : List (Nat × Held) → Env → AH → Prop) (e : Env) (H : AH) : quietK P R d T i F e H = bindK (d.o.op.eval P R e H) fun v _ => putK d T i e v F H := of_eq_true (eq_self _)
@[simp] theorem putK_app (d : DOper) (T : List (Nat × Held)) (i : Nat) (F : List (Nat × Held) → Env → AH → Prop) (e : Env) (v : AV) (H : AH) : putK d T i e v F H = F (if heapy d.o.op e then (i, ⟨d.o, e, v⟩) :: T else T) (e.put d.o.dst v) H := of_eq_true (eq_self _)
@[simp] theorem effK_app (T : List (Nat × Held)) (F : List (Nat × Held) → Env → AH → Prop) (e : Env) (H : AH) : effK P R T F e H = ((∀ x ∈ T, recheck P R x.2 H) ∧ F T e H) := of_eq_true (eq_self _)
@[simp] theorem keepF_nil (B : List Nat) (i : Nat) : keepF B [] i = [] := rfl
@[simp] theorem keepF_cons (B : List Nat) (i k : Nat) (x : Held) (T : List (Nat × Held)) : keepF B ((k, x) :: T) i = if (B[i]?.getD 0) / 2 ^ k % 2 = 0 then (k, x) :: keepF B T i else keepF B T i := by
  unfold keepF; rw [List.filter_cons]; simp
end
end Am
attribute [simp] Am.heapy Am.AOp.quiet
