/- A region that draws its order, in a function that holds a range over a function: the marks among the deferred calls stay. -/
import Derived.Test.YtffmpomidfickaaTrColl
namespace Am
open Go Go.RowKit
set_option linter.unusedSimpArgs false
set_option linter.unusedVariables false
section
variable {P : Program} {ops : Array Oper} {Q0 Q : Exit → Act → World → Prop} {md : Region.Mode}
theorem put_defers (a : Act) (d : Option Tmp) (v : Value) : (a.put d v).defers = a.defers := by cases d <;> rfl
theorem put_tmps (tm : Array Value) (ds : List Deferred) (d : Option Tmp) (v : Value) : (({ tmps := tm, defers := ds } : Act).put d v) = { tmps := (({ tmps := tm, defers := [] } : Act).put d v).tmps, defers := ds } := by cases d <;> rfl
/-- What was put off never comes away within a region. -/
theorem no_defers (hQn : ∀ a w, Q0 .normal a w → a.defers = []) (hQp : ∀ c a w, ¬ Q0 (.panic c) a w) (hQo : ¬ LetsOut Q0) :
    ∀ (fuel : Nat) (listed : Array Bool) (a : Act) (w : World), a.defers ≠ [] → wpAny P md ops Q0 fuel listed a w → False
  | 0, listed, a, w, hd, h => hd (hQn _ _ h.2)
  | fuel + 1, listed, a, w, hd, h => by
    cases hr : Region.ready md ops listed with
    | nil => exact hd (hQn _ _ (h.1 hr))
    | cons i l =>
      have h1 := h.2 i (by rw [hr]; exact List.mem_cons_self ..)
      have ih := fun (a : Act) (w : World) (hd : a.defers ≠ []) => no_defers hQn hQp hQo fuel (listed.setIfInBounds i true) a w hd
      unfold wpOp at h1
      split at h1
      · exact ih _ _ hd h1
      · rename_i o ho
        split at h1
        · rcases h1 with h1 | ⟨_, h1⟩
          · unfold Oper.wp at h1
            generalize (execOp a.eval o).run P w = r at h1
            cases r with
            | ok x w' =>
              cases x <;> simp only [Oper.upon] at h1
              case value v => exact ih _ _ (by rw [put_defers]; exact hd) h1
              case skip => exact ih _ _ (by rw [put_defers]; exact hd) h1
              case defer d => exact ih _ _ (by rw [put_defers]; simp) h1
              case enter f args =>
                obtain ⟨e, w2, fr, h2, _⟩ := h1 []
                cases e with
                | returned v => exact ih _ _ (by rw [put_defers]; exact hd) h2
                | panicked c => exact hQp _ _ _ h2
                | outgrown => exact hQo h2
              case row row args =>
                obtain ⟨v, w2, h2, _⟩ := h1 default []
                exact ih _ _ (by rw [put_defers]; exact hd) h2
            | halt x w' => cases x <;> simp only [Oper.upon] at h1; exact hQp _ _ _ h1
          · exact hQo h1
        · exact ih _ _ (by rw [put_defers]; exact hd) h1
theorem lift_any {ds : List Deferred} (hQn : ∀ a w, Q0 .normal a w → a.defers = []) (hQp : ∀ c a w, ¬ Q0 (.panic c) a w) (hQo : ¬ LetsOut Q0) (hQ : ∀ tm w, Q0 .normal { tmps := tm, defers := [] } w → Q .normal { tmps := tm, defers := ds } w) :
    ∀ (fuel : Nat) (listed : Array Bool) (tm : Array Value) (w : World), wpAny P md ops Q0 fuel listed { tmps := tm, defers := [] } w → wpAnyIn (wideR none) 0 P md ops Q fuel listed { tmps := tm, defers := ds } w
  | 0, listed, tm, w, h => ⟨h.1, hQ _ _ h.2⟩
  | fuel + 1, listed, tm, w, h => by
    refine ⟨fun h0 => hQ _ _ (h.1 h0), fun i hi => ?_⟩
    have h1 := h.2 i hi
    have ih := fun (tm : Array Value) (w : World) => lift_any hQn hQp hQo hQ fuel (listed.setIfInBounds i true) tm w
    have ihp : ∀ (d : Option Tmp) (v : Value) (w : World), wpAny P md ops Q0 fuel (listed.setIfInBounds i true) (({ tmps := tm, defers := [] } : Act).put d v) w → wpAnyIn (wideR none) 0 P md ops Q fuel (listed.setIfInBounds i true) (({ tmps := tm, defers := ds } : Act).put d v) w := fun d v w hh => by
      rw [put_tmps]
      rw [put_tmps] at hh
      exact ih _ _ hh
    unfold wpOp at h1
    unfold wpOpIn
    cases ho : ops[i]? with
    | none => rw [ho] at h1; exact ih _ _ h1
    | some o =>
      rw [ho] at h1
      dsimp only at h1 ⊢
      split
      · rename_i hw
        rw [if_pos hw] at h1
        rcases h1 with h1 | ⟨_, h1⟩
        · unfold Oper.wp at h1
          refine ⟨fun _ _ => trivial, ?_⟩
          rw [show (wideR none).round = none from rfl, Oper.semAt_none]
          have hev : ({ tmps := tm, defers := ds } : Act).eval = ({ tmps := tm, defers := [] } : Act).eval := rfl
          rw [hev]
          generalize (execOp ({ tmps := tm, defers := [] } : Act).eval o).run P w = r at h1
          cases r with
          | ok x w' =>
            cases x <;> simp only [Oper.upon] at h1 <;> simp only [Oper.uponIn]
            case value v => exact ihp _ _ _ h1
            case skip => exact ihp _ _ _ h1
            case defer d => exact absurd h1 fun h1 => no_defers hQn hQp hQo fuel _ _ _ (by rw [put_defers]; simp) h1
            case enter f args =>
              refine ⟨fun h => by simp [wideR, Fence.wide] at h, callsIn_wideR.2 (Calls.mono h1 ?_)⟩
              rintro e w2 h2
              cases e with
              | returned v => exact ihp _ _ _ h2
              | panicked c => exact absurd h2 (hQp _ _ _)
              | outgrown => exact absurd h2 hQo
            case row row args =>
              refine ⟨fun h => by simp [wideR, Fence.wide] at h, fun c cs hroom => ?_⟩
              obtain ⟨v, w2, h2, h3⟩ := h1 c cs
              exact ⟨v, w2, ihp _ _ _ h2, stepsIn_wide.2 h3⟩
          | halt x w' => cases x <;> simp only [Oper.upon] at h1; exact absurd h1 (hQp _ _ _)
        · exact absurd h1 hQo
      · rename_i hw
        rw [if_neg hw] at h1
        exact ⟨fun _ _ => trivial, ihp _ _ _ h1⟩
end
theorem AWpR.sched {P : Program} {R : Ro} {ms : List Nat} {nt : Nat} {l : List DOper} {B : List Nat} {Q : Exit → List Nat → Env → AH → Prop} {env : Env} {H : AH} (s : List Nat) (hm : P.follows .mixedOrders = true) (hs : (schedOk l s [] && s.length == l.length) = true) (h : execS P R l B (QNormR Q ms) s [] env H) : AWpR P R none ms nt (.draw l B) Q env H := by
  intro c hc base hR ρ w tm ds hd hst
  obtain ⟨id, ops, rfl, hdr⟩ := compC_inv hc
  simp only [Bool.and_eq_true, beq_iff_eq] at hs
  have hlen : l.length = ops.size := by
    obtain ⟨hl, _⟩ := drawC_inv hdr
    have := opersC_length hl; simpa using this
  refine wpIn_region_any hm ?_
  refine lift_any (Q0 := AQ (fun ex e H => Q ex ms e H) base ρ nt) (fun a w h => ?_) (fun _ _ _ h => h) (fun h => ?_) (fun tm w h => ?_) _ _ _ _ (wpAny_of_X (eff := effA l) (B := B) _ [] _ _ _ ?_)
  · obtain ⟨_, _, _, _, h2, _⟩ := h; exact h2.defers
  · obtain ⟨_, _, h⟩ := h; exact h
  · obtain ⟨ρ', e, H', h1, h2, h3⟩ := h
    exact ⟨ρ', e, H', ms, h1, h2, marks_ext h1 hd, h3⟩
  · rw [← hlen, ← hs.2]
    refine execS_sound hR hdr (Q := AQ (fun ex e H => Q ex ms e H) base ρ nt) (ρ0 := ρ) (fun ρ' e' H' a' w' hx hs' hk => ⟨ρ', e', H', hx, hs', hk⟩) (fun _ _ _ h => h) s [] hs.1 [] [] env H h (fun x hx => by cases hx) ρ { tmps := tm, defers := [] } _ _ [] (Ext.refl _) (hst.ext _) .nil (fun y hy => by cases hy) ?_ ?_
    · intro j o hj hl e he hb
      rw [hs.2, hlen] at hl
      simp only [Array.getD_eq_getD_getElem?, Array.getElem?_replicate] at hl
      split at hl <;> simp at hl
    · refine ⟨by simp [hlen, hs.2], fun j hj => ?_⟩
      simp [hlen, hs.2, hj]
end Am
