/- A function's body, entered and left. -/
import Derived.Test.YtjglohfkpigdfaaDoorAmDraw
set_option linter.unusedSimpArgs false
set_option linter.unusedVariables false
set_option linter.unusedSectionVars false
set_option linter.unnecessarySimpa false
namespace Am
open Go Go.RowKit

inductive RX where
  | tmp (t : Nat)
  | cell (t : Nat) (n : Option Nat)

structure AFn where
  nt : Nat
  res : List RX
  body : AC

section
variable (P : Program)
def resC1 : ResultVar → Option RX
  | .tmp t => some (.tmp t)
  | .cell a t => match aggC P t with
    | some true => (sizeC P t).map fun n => .cell a (some n)
    | some false => some (.cell a none)
    | none => none
def resC : List ResultVar → Option (List RX)
  | [] => some []
  | r :: rs => match resC1 P r, resC rs with
    | some x, some l => some (x :: l)
    | _, _ => none

def FnOk (f : FuncId) (af : AFn) : Prop := ∃ fn c, P.funcs[f]? = some fn ∧ fn.body = some c ∧ fn.ntmps = af.nt ∧ compC P af.nt c = some af.body ∧ resC P fn.results.toList = some af.res

/-- The same as a program's question. -/
def fnC (fn : Func) : Option AFn := match fn.body with
  | some c => match compC P fn.ntmps c, resC P fn.results.toList with
    | some b, some r => some ⟨fn.ntmps, r, b⟩
    | _, _ => none
  | none => none

theorem FnOk.of {f : FuncId} {fn : Func} {af : AFn} (hf : P.funcs[f]? = some fn) (h : fnC P fn = some af) : FnOk P f af := by
  unfold fnC at h
  split at h
  · split at h
    · cases h; exact ⟨fn, _, hf, ‹_›, rfl, ‹_›, ‹_›⟩
    · cases h
  · cases h
end

def resE1 (R : Ro) (e : Env) (H : AH) : RX → Option AV
  | .tmp t => some (e t)
  | .cell t n => match e t with
    | .ptr l off => match n with
      | none => read1 R H l off
      | some n => (readN R H n l off).map .agg
    | _ => none
def resE (R : Ro) (e : Env) (H : AH) : List RX → Option (List AV)
  | [] => some []
  | r :: rs => match resE1 R e H r, resE R e H rs with
    | some v, some l => some (v :: l)
    | _, _ => none

def resV : List AV → AV
  | [v] => v
  | vs => .tuple vs

def env0 (args : List AV) : Env := fun t => args.getD t AV.undef

/-- What a body must come to. -/
def QRet (R : Ro) (res : List RX) (K : AV → AH → Prop) : Exit → Env → AH → Prop := fun ex e H =>
  match ex with
  | .normal | .ret => match resE R e H res with
    | some vs => K (resV vs) H
    | none => False
  | _ => False

section
variable {P : Program} {R : Ro}

def resF (a : Act) : ResultVar → Sem Value
  | .tmp t => pure (a.tmps.getD t Go.undef)
  | .cell a' t => do loadVar t (← asAddr (a.tmps.getD a' Go.undef))

theorem res1_sound {base : World} (hR : ROk R base) {ρ : Ren} {e : Env} {H : AH} {a : Act} {w : World} {nt : Nat} (hs : St base ρ e H a w nt) {r : ResultVar} {x : RX} (hc : resC1 P r = some x) {v : AV} (hv : resE1 R e H x = some v) :
    ∃ V, ren ρ v = some V ∧ (resF a r).run P w = .ok V w := by
  cases r with
  | tmp t =>
    simp only [resC1, Option.some.injEq] at hc
    subst hc
    simp only [resE1, Option.some.injEq] at hv
    subst hv
    exact ⟨_, hs.val t, rfl⟩
  | cell a' t =>
    have key : ∀ (n : Option Nat) (b : Bool), aggC P t = some b → ((b = true ∧ ∃ m, n = some m ∧ sizeC P t = some m) ∨ (b = false ∧ n = none)) → resE1 R e H (.cell a' n) = some v →
        ∃ V, ren ρ v = some V ∧ (do loadVar t (← asAddr (a.tmps.getD a' Go.undef)) : Sem Value).run P w = .ok V w := by
      intro n b hb hn hv
      simp only [resE1] at hv
      split at hv
      · rename_i l off hx
        have h1 := hs.val a'
        rw [hx] at h1
        obtain ⟨A, hA, h1⟩ := ren_ptr h1
        rw [h1]
        rcases hn with ⟨rfl, m, rfl, hm⟩ | ⟨rfl, rfl⟩
        · simp only [Option.map_eq_some_iff] at hv
          obtain ⟨vs, hvs, rfl⟩ := hv
          obtain ⟨V, hV, hlen, hrun⟩ := readN_sound hR hs.rel hvs hA
          refine ⟨.agg V.toArray, by simp [ren, hV], ?_⟩
          simp [asAddr, loadVar, aggC_ok hb, sizeC_ok hm, loadCells, hrun]
        · obtain ⟨x, hx, hcell⟩ := read1_sound hR hs.rel hv hA
          exact ⟨x, hx, by simp [asAddr, loadVar, aggC_ok hb, hcell]⟩
      · cases hv
    simp only [resC1] at hc
    split at hc
    · simp only [Option.map_eq_some_iff] at hc
      obtain ⟨n, hn, rfl⟩ := hc
      exact key (some n) true ‹_› (.inl ⟨rfl, n, rfl, hn⟩) hv
    · cases hc
      exact key none false ‹_› (.inr ⟨rfl, rfl⟩) hv
    · cases hc

theorem res_sound {base : World} (hR : ROk R base) {ρ : Ren} {e : Env} {H : AH} {a : Act} {w : World} {nt : Nat} (hs : St base ρ e H a w nt) : ∀ {rs : List ResultVar} {xs : List RX}, resC P rs = some xs → ∀ {vs : List AV}, resE R e H xs = some vs →
    ∃ Vs, renL ρ vs = some Vs ∧ (rs.mapM (resF a)).run P w = .ok Vs w
  | [], xs, hc, vs, hv => by
    simp only [resC, Option.some.injEq] at hc
    subst hc
    simp only [resE, Option.some.injEq] at hv
    subst hv
    exact ⟨[], rfl, by simp⟩
  | r :: rs, xs, hc, vs, hv => by
    simp only [resC] at hc
    split at hc
    · rename_i x l hx hl
      cases hc
      simp only [resE] at hv
      split at hv
      · rename_i v vl hv1 hvl
        cases hv
        obtain ⟨V, h1, h2⟩ := res1_sound hR hs hx hv1
        obtain ⟨Vs, h3, h4⟩ := res_sound hR hs hl hvl
        refine ⟨V :: Vs, renL_cons_mk h1 h3, ?_⟩
        simp only [List.mapM_cons, Sem.run_bind]
        rw [h2]
        simp only [Result.andThen_ok]
        rw [h4]
        rfl
      · cases hv
    · cases hc

theorem results_sound {base : World} (hR : ROk R base) {ρ : Ren} {e : Env} {H : AH} {a : Act} {w : World} {nt : Nat} (hs : St base ρ e H a w nt) {fn : Func} {xs : List RX} (hc : resC P fn.results.toList = some xs) {vs : List AV} (hv : resE R e H xs = some vs) :
    ∃ V, ren ρ (resV vs) = some V ∧ (results fn a.tmps).run P w = .ok V w := by
  obtain ⟨Vs, h1, h2⟩ := res_sound hR hs hc hv
  have hlen := renL_length h1
  refine ⟨if h : Vs.toArray.size = 1 then Vs.toArray[0] else .tuple Vs.toArray, ?_, ?_⟩
  · match vs, h1, hlen with
    | [v], h1, hlen =>
      obtain ⟨x, xs', e1, e2, rfl⟩ := renL_cons h1
      obtain rfl := renL_nil e2
      simpa [resV] using e1
    | [], h1, hlen =>
      obtain rfl := renL_nil h1
      simp [resV, ren, renL]
    | a :: b :: l, h1, hlen =>
      rw [dif_neg (by simp [hlen])]
      simp [resV, ren, h1]
  · have h3 : (fn.results.mapM (resF a)).run P w = .ok Vs.toArray w := by
      rw [← Array.toArray_toList (xs := fn.results), List.mapM_toArray, Sem.run_map, h2]
      rfl
    have h4 : results fn a.tmps = (do let vs ← fn.results.mapM (resF a); pure (if h : vs.size = 1 then vs[0] else .tuple vs) : Sem Value) := by
      unfold results
      congr 1
    rw [h4, Sem.run_bind, h3]
    rfl

theorem ACalls.of_body {f : FuncId} {af : AFn} (hf : FnOk P f af) {args : List AV} (hn : args.length ≤ af.nt) {H : AH} {K : AV → AH → Prop} (h : AWp P R af.nt af.body (QRet R af.res K) (env0 args) H) : ACalls P R f args H K := by
  intro base hR ρ w Vs hrel hV
  obtain ⟨fn, c, h1, h2, h3, h4, h5⟩ := hf
  have hlen := renL_length hV
  refine calls_of_wp h1 h2 (wp_mono (h c h4 base hR ρ { tmps := Vs.toArray ++ Array.replicate (fn.ntmps - Vs.toArray.size) Go.undef, defers := [] } w ⟨hrel, ?_, fun t => ?_, rfl⟩) ?_)
  · simp; omega
  · simp only [env0]
    by_cases ht : t < args.length
    · obtain ⟨x, hx, hr⟩ := renL_getElem? hV t args[t] (List.getElem?_eq_getElem ht)
      have : args.getD t AV.undef = args[t] := by simp [ht]
      rw [this, hr]
      congr 1
      have hlt : t < Vs.length := by omega
      rw [List.getElem?_eq_getElem hlt] at hx
      simp only [Array.getD_eq_getD_getElem?]
      rw [Array.getElem?_append_left (by simpa using hlt)]
      simp [hlt] at hx ⊢
      exact hx.symm
    · have : args.getD t AV.undef = AV.undef := by simp [Nat.le_of_not_lt ht]
      rw [this]
      simp only [Array.getD_eq_getD_getElem?]
      rw [Array.getElem?_append_right (by simp; omega)]
      simp only [Array.getElem?_replicate]
      split <;> rfl
  · intro ex a1 w1 hh
    have key : (∃ ρ' env H, Ext ρ ρ' ∧ St base ρ' env H a1 w1 af.nt ∧ (match resE R env H af.res with | some vs => K (resV vs) H | none => False)) →
        a1.defers = [] ∧ ∃ v, (results fn a1.tmps).run P w1 = .ok v w1 ∧ ∃ v' V ρ' H', Ending.returned v = .returned V ∧ Ext ρ ρ' ∧ Rel base ρ' H' w1 ∧ ren ρ' v' = some V ∧ K v' H' := by
      rintro ⟨ρ', env, H', hx, hs, hk⟩
      split at hk
      · rename_i vs hvs
        obtain ⟨V, e1, e2⟩ := results_sound hR hs h5 hvs
        exact ⟨hs.defers, V, e2, resV vs, V, ρ', H', rfl, hx, hs.rel, e1, hk⟩
      · exact hk.elim
    cases ex with
    | normal => exact key hh
    | ret => exact key hh
    | exit id => simp only [AQ, QRet] at hh; obtain ⟨_, _, _, _, _, hh⟩ := hh; exact hh.elim
    | goto l => exact hh.elim
    | panic ch => exact hh.elim
    | outgrown => exact hh.elim

/-- What a call has left behind, beyond what was there, may be forgotten. -/
theorem Rel.back {base : World} {ρ ρ' : Ren} {H G : AH} {w w' : World} (h0 : Rel base ρ H w) (h : Rel base ρ' (H ++ G) w') (hx : Ext ρ ρ') : Rel base ρ H w' := by
  have hg : ∀ (i : Nat) o, H[i]? = some o → (H ++ G)[i]? = some o := fun i o ho => by
    rw [List.getElem?_append_left (List.getElem?_eq_some_iff.1 ho).1]; exact ho
  refine ⟨h.below, h0.len, fun i o p h1 h2 => ?_, fun i o p h1 h2 hl => h.blk i o p (hg i o h1) (hx.get h2) hl, fun i j o u p q hij h1 h2 h3 h4 => h.inj i j o u p q hij (hg i o h1) (hg j u h2) (hx.get h3) (hx.get h4)⟩
  have a := h0.obj i o p h1 h2
  have b := h.obj i o p (hg i o h1) (hx.get h2)
  cases o with
  | cells c t =>
    obtain ⟨C, cs, a1, a2, a3⟩ := a
    obtain ⟨D, ds, b1, b2, b3⟩ := b
    rw [renL_ext hx a2] at b2; cases b2
    exact ⟨D, cs, b1, a2, b3⟩
  | row c t sz =>
    obtain ⟨C, cs, a1, a2, a3, a4⟩ := a
    obtain ⟨D, ds, b1, b2, b3, b4⟩ := b
    rw [renL_ext hx a2] at b2; cases b2
    exact ⟨D, cs, b1, a2, b3, b4⟩
  | map es k =>
    obtain ⟨E, a1, a2⟩ := a
    obtain ⟨D, b1, b2⟩ := b
    rw [renE_ext hx a2] at b2
    exact ⟨D, b1, by rw [a2]; exact b2⟩
  | siter s pos => exact b
  | dead => trivial

/-- A call whose answer names no block, and that has left what was there as it was: what it has made is forgotten. -/
theorem ACalls.gc {f : FuncId} {args : List AV} {H : AH} {K : AV → Prop} (h : ACalls P R f args H fun v H' => (∃ G, H' = H ++ G) ∧ (ren [] v).isSome = true ∧ K v) : ACalls P R f args H fun v H' => H' = H ∧ K v := by
  intro base hR ρ w Vs hrel hV
  refine (h base hR ρ w Vs hrel hV).mono ?_
  rintro e w' ⟨v, V, ρ', H', rfl, hx, hr, hv, ⟨G, rfl⟩, hs, hk⟩
  obtain ⟨V0, h0⟩ := Option.isSome_iff_exists.1 hs
  have h1 := ren_ext (ρ' := ρ') ⟨ρ', by simp⟩ h0
  rw [hv] at h1; cases h1
  exact ⟨v, V, ρ, H, rfl, Ext.refl _, hrel.back hr hx, ren_ext ⟨ρ, by simp⟩ h0, rfl, hk⟩
end
end Am
