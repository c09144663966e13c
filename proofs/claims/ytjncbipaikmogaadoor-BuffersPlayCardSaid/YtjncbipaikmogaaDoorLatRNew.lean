/- The document's judgement on a table. -/
import Derived.Test.YtjncbipaikmogaaDoorLatRef
namespace Go.Proofs.YtjncbipaikmogaaDoor.Latt
open Go Go.RowKit Am
set_option maxRecDepth 100000
set_option linter.unusedSimpArgs false
set_option linter.unusedVariables false
attribute [-simp] Am.binEv Am.intBin Am.read1
attribute [local simp] binEv_lss binEv_leq binEv_gtr binEv_geq binEv_eql binEv_neq binEv_add binEv_sub binEv_mul binEv_shr58 read1_ro read1_mu
variable {R : Ro}
open Classical in
/-- What the document answers: 0, or what bars the table. -/
noncomputable def ansT (T : List (List Bool)) : Int := if GoodT T then 0 else errT T
/-- Nothing against an order at two labels, at three. -/
def NoA (T : List (List Bool)) (a b : Nat) : Prop := ¬ (a ≠ b ∧ tb T a b = true ∧ tb T b a = true)
def NoT (T : List (List Bool)) (a b c : Nat) : Prop := ¬ (tb T a b = true ∧ tb T b c = true ∧ tb T a c = false)
theorem TabIn.row {H : AH} {l : Am.Loc} {off : Nat} {cap : Cap} {T : List (List Bool)} (ht : TabIn R H (.slice l off T.length cap) T) {x : Nat} {r : List Bool} (hx : T[x]? = some r) :
    (∃ L o c, read1 R H l (off + x) = some (.slice L o r.length c) ∧ ∀ (y : Nat) b, r[y]? = some b → read1 R H L (o + y) = some (.bool b)) ∨ (r = [] ∧ (read1 R H l (off + x) = some .nilslice ∨ ∃ A c, read1 R H l (off + x) = some (.raw (.slice A 0 c)))) := by
  obtain ⟨rows, h1, h2, h3⟩ := ht
  have hxl := (List.getElem?_eq_some_iff.1 hx).1
  obtain ⟨v, hv, hs⟩ := h3 x r hx
  rcases h1 with ⟨h0, _⟩ | ⟨l', off', cap', h0, hread⟩
  · cases h0
  · simp only [AV.slice.injEq] at h0
    obtain ⟨rfl, rfl, _, rfl⟩ := h0
    have hr := hread x v hv
    rcases hs with (⟨rfl, hn⟩ | ⟨L, o, c, rfl, hg⟩) | ⟨hn, A, c, rfl⟩
    · exact .inr ⟨by simpa using hn, .inl hr⟩
    · refine .inl ⟨L, o, c, by simpa using hr, fun y b hy => hg y _ (by rw [List.getElem?_map, hy]; rfl)⟩
    · exact .inr ⟨by simpa using hn, .inr ⟨A, c, hr⟩⟩
theorem TabIn.cells {H : AH} {l : Am.Loc} {off : Nat} {cap : Cap} {T : List (List Bool)} (ht : TabIn R H (.slice l off T.length cap) T) (hsq : SqT T) {x : Nat} (hx : x < T.length) :
    ∃ L o c, read1 R H l (off + x) = some (.slice L o T.length c) ∧ ∀ y, y < T.length → read1 R H L (o + y) = some (.bool (tb T x y)) := by
  have hxr := hsq _ (List.getElem_mem hx)
  rcases ht.row (List.getElem?_eq_getElem hx) with ⟨L, o, c, h1, h2⟩ | ⟨h0, _⟩
  · rw [hxr] at h1
    refine ⟨L, o, c, h1, fun y hy => ?_⟩
    have hyl : y < T[x].length := by omega
    rw [h2 y _ (List.getElem?_eq_getElem hyl)]
    simp [tb, List.getElem?_eq_getElem hx, List.getElem?_eq_getElem hyl]
  · rw [h0] at hxr; simp at hxr; omega
set_option maxHeartbeats 16000000 in
theorem rnew_ok {H : AH} {tv : AV} {T : List (List Bool)} (ht : TabIn R H tv T) : ACalls Tryd.prog R 8 [tv] H fun v H' => v = .int .i64 (ansT T) ∧ H' = H := by
  refine ACalls.of_wpE Fns.ok8 (by simp [Fns.a8]) ?_
  have bad3 : (T.length < 1 ∨ 64 < T.length) → ansT T = 3 := fun h => by
    unfold ansT
    rw [if_neg (fun g => by have := g.lo; have := g.hi; omega), errT3 h]
  rcases ht.lenEv with ⟨rfl, h0⟩ | ⟨l, off, cap, rfl⟩
  · simp [Fns.a8]
    exact (bad3 (.inl (by omega))).symm
  by_cases h1 : T.length < 1
  · have h1' : (T.length : Int) < 1 := by omega
    simp [Fns.a8, h1, h1']
    exact (bad3 (.inl h1)).symm
  have h1' : ¬ (T.length : Int) < 1 := by omega
  by_cases h2 : 64 < T.length
  · have h2' : (64 : Int) < (T.length : Int) := by omega
    simp [Fns.a8, h1, h1', h2, h2']
    exact (bad3 (.inr h2)).symm
  have h2' : ¬ (64 : Int) < (T.length : Int) := by omega
  have hT0 : T ≠ [] := by intro h; rw [h] at h1; simp at h1
  simp [Fns.a8, h1, h1', h2, h2', hT0]
  refine AWp.loop (fun e H' => H' = H ∧ e 0 = .slice l off T.length cap ∧ e 3 = .int .i64 T.length ∧ ∃ x : Nat, e 4 = .int .i64 x ∧ x ≤ T.length ∧ ∀ (z : Nat) r, z < x → T[z]? = some r → r.length = T.length)
    (fun e _ => match e 4 with | .int _ i => ((T.length : Int) - i).toNat | _ => 0) ⟨rfl, by simp, by simp, 0, by simp, by omega, fun z r h => absurd h (by omega)⟩ ?_
  rintro e H' ⟨rfl, h0, h3, x, h4, hx, hno⟩
  refine wpE_sound _ ?_
  by_cases hxl : x < T.length
  · have hxl' : (x : Int) < (T.length : Int) := by omega
    have hw1 : IntKind.i64.wrap ((x : Int) + 1) = (x : Int) + 1 := i64_small _ (by omega) (by omega)
    have hri : T[x]? = some T[x] := List.getElem?_eq_getElem hxl
    have bad8 : ¬ T[x].length = T.length → ansT T = 8 := fun h => by
      unfold ansT
      rw [if_neg (fun g => h (g.rows _ (List.getElem_mem hxl))), errT8 (by omega) (by omega) (List.getElem_mem hxl) h]
    rcases ht.row hri with ⟨L, o, c, hrd, _⟩ | ⟨hn, hrd | ⟨A, c, hrd⟩⟩
    · by_cases hl : T[x].length = T.length
      · have hl' : (T[x].length : Int) = (T.length : Int) := by omega
        simp [h0, h3, h4, hxl, hxl', hrd, hl, hl', hw1]
        refine ⟨⟨x + 1, by simp, by omega, fun z r hz hr => ?_⟩, by omega⟩
        by_cases hzx : z = x
        · subst hzx; rw [hri] at hr; cases hr; exact hl
        · exact hno z r (by omega) hr
      · have hl' : ¬ (T[x].length : Int) = (T.length : Int) := by omega
        simp [h0, h3, h4, hxl, hxl', hrd, hl, hl']
        exact (bad8 hl).symm
    · have hl : ¬ T[x].length = T.length := by rw [hn]; simp; omega
      have hz : ¬ (0 : Int) = (T.length : Int) := by omega
      simp [h0, h3, h4, hxl, hxl', hrd, hz]
      exact (bad8 hl).symm
    · have hl : ¬ T[x].length = T.length := by rw [hn]; simp; omega
      have hz : ¬ (0 : Int) = (T.length : Int) := by omega
      simp [h0, h3, h4, hxl, hxl', hrd, hz]
      exact (bad8 hl).symm
  obtain rfl : x = T.length := by omega
  have hsq : SqT T := by
    intro r hr
    obtain ⟨z, hz, rfl⟩ := List.mem_iff_getElem.1 hr
    exact hno z _ hz (List.getElem?_eq_getElem hz)
  have bad1 : ¬ GoodT T → ansT T = 1 := fun h => by unfold ansT; rw [if_neg h, errT1 (by omega) (by omega) hsq]
  simp [h0, h3, h4]
  refine AWp.loop (fun e H1 => H1 = H' ∧ e 0 = .slice l off T.length cap ∧ e 3 = .int .i64 T.length ∧ ∃ a : Nat, e 5 = .int .i64 a ∧ a ≤ T.length ∧ ∀ z, z < a → tb T z z = true ∧ ∀ y, y < T.length → NoA T z y ∧ ∀ w, w < T.length → NoT T z y w)
    (fun e _ => match e 5 with | .int _ i => ((T.length : Int) - i).toNat | _ => 0) ⟨rfl, by simp [h0], by simp [h3], 0, by simp, by omega, fun z h => absurd h (by omega)⟩ ?_
  rintro e H1 ⟨rfl, h0, h3, a, h5, ha, hord⟩
  refine wpE_sound _ ?_
  by_cases hal : a < T.length
  · have hal' : (a : Int) < (T.length : Int) := by omega
    have hwa : IntKind.i64.wrap ((a : Int) + 1) = (a : Int) + 1 := i64_small _ (by omega) (by omega)
    obtain ⟨La, oa, ca, hra, hca⟩ := ht.cells hsq hal
    cases haa : tb T a a with
    | false =>
      have hc := hca a hal
      rw [haa] at hc
      simp [h0, h3, h5, hal, hal', hra, hc]
      exact (bad1 fun g => by have := g.refl hal; rw [haa] at this; cases this).symm
    | true =>
      have hc := hca a hal
      rw [haa] at hc
      simp [h0, h3, h5, hal, hal', hra, hc]
      refine AWp.loop (fun e H2 => H2 = H1 ∧ e 0 = .slice l off T.length cap ∧ e 3 = .int .i64 T.length ∧ e 5 = .int .i64 a ∧ ∃ b : Nat, e 6 = .int .i64 b ∧ b ≤ T.length ∧ ∀ y, y < b → NoA T a y ∧ ∀ w, w < T.length → NoT T a y w)
        (fun e _ => match e 6 with | .int _ i => ((T.length : Int) - i).toNat | _ => 0) ⟨rfl, by simp [h0], by simp [h3], by simp [h5], 0, by simp, by omega, fun z h => absurd h (by omega)⟩ ?_
      rintro e H2 ⟨rfl, h0, h3, h5, b, h6, hb, hordb⟩
      refine wpE_sound _ ?_
      by_cases hbl : b < T.length
      · have hbl' : (b : Int) < (T.length : Int) := by omega
        have hwb : IntKind.i64.wrap ((b : Int) + 1) = (b : Int) + 1 := i64_small _ (by omega) (by omega)
        obtain ⟨Lb, ob, cb, hrb, hcb⟩ := ht.cells hsq hbl
        have hab := hca b hbl
        have hba := hcb a hal
        by_cases hne : a = b
        · subst hne
          simp [h0, h3, h5, h6, hbl, hbl']
          refine AWp.loop (fun e H3 => H3 = H2 ∧ e 0 = .slice l off T.length cap ∧ e 3 = .int .i64 T.length ∧ e 5 = .int .i64 a ∧ e 6 = .int .i64 a ∧ ∃ c : Nat, e 7 = .int .i64 c ∧ c ≤ T.length ∧ ∀ w, w < c → NoT T a a w)
            (fun e _ => match e 7 with | .int _ i => ((T.length : Int) - i).toNat | _ => 0) ⟨rfl, by simp [h0], by simp [h3], by simp [h5], by simp [h6], 0, by simp, by omega, fun z h => absurd h (by omega)⟩ ?_
          rintro e H3 ⟨rfl, h0, h3, h5, h6, c, h7c, hc, hordc⟩
          refine wpE_sound _ ?_
          by_cases hcl : c < T.length
          · have hcl' : (c : Int) < (T.length : Int) := by omega
            have hwc : IntKind.i64.wrap ((c : Int) + 1) = (c : Int) + 1 := i64_small _ (by omega) (by omega)
            have xab := hca a hbl
            have xbc := hca c hcl
            have xac := hca c hcl
            have next : NoT T a a c → ∀ w, w < c + 1 → NoT T a a w := fun h w hw => by
              by_cases hwc : w = c
              · subst hwc; exact h
              · exact hordc w (by omega)
            cases k1 : tb T a a with
            | false =>
              rw [k1] at xab
              simp [h0, h3, h5, h6, h7c, hal, hal', hbl, hbl', hcl, hcl', hra, xab, hwc]
              exact ⟨⟨c + 1, by simp, by omega, next (by unfold NoT; rw [k1]; simp)⟩, by omega⟩
            | true =>
              rw [k1] at xab
              cases k2 : tb T a c with
              | false =>
                rw [k2] at xbc
                simp [h0, h3, h5, h6, h7c, hal, hal', hbl, hbl', hcl, hcl', hra, xab, xbc, hwc]
                exact ⟨⟨c + 1, by simp, by omega, next (by unfold NoT; rw [k2]; simp)⟩, by omega⟩
              | true =>
                rw [k2] at xbc
                cases k3 : tb T a c with
                | true =>
                  rw [k3] at xac
                  simp [h0, h3, h5, h6, h7c, hal, hal', hbl, hbl', hcl, hcl', hra, xab, xbc, xac, hwc]
                  exact ⟨⟨c + 1, by simp, by omega, next (by unfold NoT; rw [k3]; simp)⟩, by omega⟩
                | false =>
                  rw [k3] at k2; cases k2
          · obtain rfl : c = T.length := by omega
            simp [h0, h3, h5, h6, h7c, hwb]
            refine ⟨⟨a + 1, by simp, by omega, fun z hz => ?_⟩, by omega⟩
            by_cases hzb : z = a
            · subst hzb; exact ⟨by unfold NoA; simp, hordc⟩
            · exact hordb z (by omega)
        · have hne' : ¬ (a : Int) = (b : Int) := by omega
          cases h7 : tb T a b with
          | false =>
            rw [h7] at hab
            simp [h0, h3, h5, h6, hal, hal', hbl, hbl', hne, hne', hra, hab]
            refine AWp.loop (fun e H3 => H3 = H2 ∧ e 0 = .slice l off T.length cap ∧ e 3 = .int .i64 T.length ∧ e 5 = .int .i64 a ∧ e 6 = .int .i64 b ∧ ∃ c : Nat, e 7 = .int .i64 c ∧ c ≤ T.length ∧ ∀ w, w < c → NoT T a b w)
              (fun e _ => match e 7 with | .int _ i => ((T.length : Int) - i).toNat | _ => 0) ⟨rfl, by simp [h0], by simp [h3], by simp [h5], by simp [h6], 0, by simp, by omega, fun z h => absurd h (by omega)⟩ ?_
            rintro e H3 ⟨rfl, h0, h3, h5, h6, c, h7c, hc, hordc⟩
            refine wpE_sound _ ?_
            by_cases hcl : c < T.length
            · have hcl' : (c : Int) < (T.length : Int) := by omega
              have hwc : IntKind.i64.wrap ((c : Int) + 1) = (c : Int) + 1 := i64_small _ (by omega) (by omega)
              have xab := hca b hbl
              have xbc := hcb c hcl
              have xac := hca c hcl
              have next : NoT T a b c → ∀ w, w < c + 1 → NoT T a b w := fun h w hw => by
                by_cases hwc : w = c
                · subst hwc; exact h
                · exact hordc w (by omega)
              cases k1 : tb T a b with
              | false =>
                rw [k1] at xab
                simp [h0, h3, h5, h6, h7c, hal, hal', hbl, hbl', hcl, hcl', hra, hrb, xab, hwc]
                exact ⟨⟨c + 1, by simp, by omega, next (by unfold NoT; rw [k1]; simp)⟩, by omega⟩
              | true =>
                rw [k1] at xab
                cases k2 : tb T b c with
                | false =>
                  rw [k2] at xbc
                  simp [h0, h3, h5, h6, h7c, hal, hal', hbl, hbl', hcl, hcl', hra, hrb, xab, xbc, hwc]
                  exact ⟨⟨c + 1, by simp, by omega, next (by unfold NoT; rw [k2]; simp)⟩, by omega⟩
                | true =>
                  rw [k2] at xbc
                  cases k3 : tb T a c with
                  | true =>
                    rw [k3] at xac
                    simp [h0, h3, h5, h6, h7c, hal, hal', hbl, hbl', hcl, hcl', hra, hrb, xab, xbc, xac, hwc]
                    exact ⟨⟨c + 1, by simp, by omega, next (by unfold NoT; rw [k3]; simp)⟩, by omega⟩
                  | false =>
                    rw [k3] at xac
                    simp [h0, h3, h5, h6, h7c, hal, hal', hbl, hbl', hcl, hcl', hra, hrb, xab, xbc, xac]
                    exact (bad1 fun g => by have := g.trans hal hbl hcl k1 k2; rw [k3] at this; cases this).symm
            · obtain rfl : c = T.length := by omega
              simp [h0, h3, h5, h6, h7c, hwb]
              refine ⟨⟨b + 1, by simp, by omega, fun z hz => ?_⟩, by omega⟩
              by_cases hzb : z = b
              · subst hzb; exact ⟨by unfold NoA; rw [h7]; simp, hordc⟩
              · exact hordb z (by omega)
          | true =>
            rw [h7] at hab
            cases h8 : tb T b a with
            | true =>
              rw [h8] at hba
              simp [h0, h3, h5, h6, hal, hal', hbl, hbl', hne, hne', hra, hab, hrb, hba]
              exact (bad1 fun g => hne (g.anti hal hbl h7 h8)).symm
            | false =>
              rw [h8] at hba
              simp [h0, h3, h5, h6, hal, hal', hbl, hbl', hne, hne', hra, hab, hrb, hba]
              refine AWp.loop (fun e H3 => H3 = H2 ∧ e 0 = .slice l off T.length cap ∧ e 3 = .int .i64 T.length ∧ e 5 = .int .i64 a ∧ e 6 = .int .i64 b ∧ ∃ c : Nat, e 7 = .int .i64 c ∧ c ≤ T.length ∧ ∀ w, w < c → NoT T a b w)
                (fun e _ => match e 7 with | .int _ i => ((T.length : Int) - i).toNat | _ => 0) ⟨rfl, by simp [h0], by simp [h3], by simp [h5], by simp [h6], 0, by simp, by omega, fun z h => absurd h (by omega)⟩ ?_
              rintro e H3 ⟨rfl, h0, h3, h5, h6, c, h7c, hc, hordc⟩
              refine wpE_sound _ ?_
              by_cases hcl : c < T.length
              · have hcl' : (c : Int) < (T.length : Int) := by omega
                have hwc : IntKind.i64.wrap ((c : Int) + 1) = (c : Int) + 1 := i64_small _ (by omega) (by omega)
                have xab := hca b hbl
                have xbc := hcb c hcl
                have xac := hca c hcl
                have next : NoT T a b c → ∀ w, w < c + 1 → NoT T a b w := fun h w hw => by
                  by_cases hwc : w = c
                  · subst hwc; exact h
                  · exact hordc w (by omega)
                cases k1 : tb T a b with
                | false =>
                  rw [k1] at xab
                  simp [h0, h3, h5, h6, h7c, hal, hal', hbl, hbl', hcl, hcl', hra, hrb, xab, hwc]
                  exact ⟨⟨c + 1, by simp, by omega, next (by unfold NoT; rw [k1]; simp)⟩, by omega⟩
                | true =>
                  rw [k1] at xab
                  cases k2 : tb T b c with
                  | false =>
                    rw [k2] at xbc
                    simp [h0, h3, h5, h6, h7c, hal, hal', hbl, hbl', hcl, hcl', hra, hrb, xab, xbc, hwc]
                    exact ⟨⟨c + 1, by simp, by omega, next (by unfold NoT; rw [k2]; simp)⟩, by omega⟩
                  | true =>
                    rw [k2] at xbc
                    cases k3 : tb T a c with
                    | true =>
                      rw [k3] at xac
                      simp [h0, h3, h5, h6, h7c, hal, hal', hbl, hbl', hcl, hcl', hra, hrb, xab, xbc, xac, hwc]
                      exact ⟨⟨c + 1, by simp, by omega, next (by unfold NoT; rw [k3]; simp)⟩, by omega⟩
                    | false =>
                      rw [k3] at xac
                      simp [h0, h3, h5, h6, h7c, hal, hal', hbl, hbl', hcl, hcl', hra, hrb, xab, xbc, xac]
                      exact (bad1 fun g => by have := g.trans hal hbl hcl k1 k2; rw [k3] at this; cases this).symm
              · obtain rfl : c = T.length := by omega
                simp [h0, h3, h5, h6, h7c, hwb]
                refine ⟨⟨b + 1, by simp, by omega, fun z hz => ?_⟩, by omega⟩
                by_cases hzb : z = b
                · subst hzb; exact ⟨by unfold NoA; rw [h8]; simp, hordc⟩
                · exact hordb z (by omega)
      · obtain rfl : b = T.length := by omega
        simp [h0, h3, h5, h6, hwa]
        refine ⟨⟨a + 1, by simp, by omega, fun z hz => ?_⟩, by omega⟩
        by_cases hza : z = a
        · subst hza; exact ⟨haa, hordb⟩
        · exact hord z (by omega)
  obtain rfl : a = T.length := by omega
  simp [h0, h3, h5]
  refine AWp.loop (fun e H2 => H2 = H1 ∧ e 0 = .slice l off T.length cap ∧ e 3 = .int .i64 T.length ∧ ∃ a : Nat, e 8 = .int .i64 a ∧ a ≤ T.length ∧ ∀ z, z < a → ∀ y, y < T.length → (∃ x, LubT T z y x) ∧ ∃ x, GlbT T z y x)
    (fun e _ => match e 8 with | .int _ i => ((T.length : Int) - i).toNat | _ => 0) ⟨rfl, by simp [h0], by simp [h3], 0, by simp, by omega, fun z h => absurd h (by omega)⟩ ?_
  rintro e H2 ⟨rfl, h0, h3, a, h8, ha, hbest⟩
  refine wpE_sound _ ?_
  by_cases hal : a < T.length
  · have hal' : (a : Int) < (T.length : Int) := by omega
    have hwa : IntKind.i64.wrap ((a : Int) + 1) = (a : Int) + 1 := i64_small _ (by omega) (by omega)
    simp [h0, h3, h8, hal, hal']
    refine AWp.loop (fun e H3 => H3 = H2 ∧ e 0 = .slice l off T.length cap ∧ e 3 = .int .i64 T.length ∧ e 8 = .int .i64 a ∧ ∃ b : Nat, e 9 = .int .i64 b ∧ b ≤ T.length ∧ ∀ y, y < b → (∃ x, LubT T a y x) ∧ ∃ x, GlbT T a y x)
      (fun e _ => match e 9 with | .int _ i => ((T.length : Int) - i).toNat | _ => 0) ⟨rfl, by simp [h0], by simp [h3], by simp [h8], 0, by simp, by omega, fun z h => absurd h (by omega)⟩ ?_
    rintro e H3 ⟨rfl, h0, h3, h8, b, h9, hb, hbestb⟩
    refine wpE_sound _ ?_
    by_cases hbl : b < T.length
    · have hbl' : (b : Int) < (T.length : Int) := by omega
      have hwb : IntKind.i64.wrap ((b : Int) + 1) = (b : Int) + 1 := i64_small _ (by omega) (by omega)
      simp [h0, h3, h8, h9, hbl, hbl']
      refine (rjoin_ok ht hsq (by omega) a b).mono ?_
      rintro v H4 ⟨rfl, ⟨rfl, hnx⟩ | ⟨x, rfl, hx1⟩⟩
      · simp
        exact (bad1 fun g => hnx _ ((lubI_iff hal hbl).2 (jn_lub g hal hbl))).symm
      · have hx0 : ¬ (x : Int) < 0 := by omega
        simp [h0, h3, h8, h9, hx0]
        refine (rmeet_ok ht hsq (by omega) a b).mono ?_
        rintro v H5 ⟨rfl, ⟨rfl, hnx⟩ | ⟨y, rfl, hy1⟩⟩
        · simp
          exact (bad1 fun g => hnx _ ((glbI_iff hal hbl).2 (mt_glb g hal hbl))).symm
        · have hy0 : ¬ (y : Int) < 0 := by omega
          simp [h0, h3, h8, h9, hy0, hwb]
          refine ⟨⟨b + 1, by simp, by omega, fun z hz => ?_⟩, by omega⟩
          by_cases hzb : z = b
          · subst hzb; exact ⟨⟨x, (lubI_iff hal hbl).1 hx1⟩, y, (glbI_iff hal hbl).1 hy1⟩
          · exact hbestb z (by omega)
    · obtain rfl : b = T.length := by omega
      simp [h0, h3, h8, h9, hwa]
      refine ⟨⟨a + 1, by simp, by omega, fun z hz => ?_⟩, by omega⟩
      by_cases hza : z = a
      · subst hza; exact hbestb
      · exact hbest z (by omega)
  obtain rfl : a = T.length := by omega
  have hg : GoodT T := by
    refine PO.good ⟨fun a h => (hord a h).1, fun a b ha hb h1 h2 => ?_, fun a b c ha hb hc h1 h2 => ?_, fun a b ha hb => (hbest a ha b hb).1, fun a b ha hb => (hbest a ha b hb).2⟩ (by omega) (by omega) hsq
    · by_cases e : a = b
      · exact e
      · exact absurd ⟨e, h1, h2⟩ (((hord a ha).2 b hb).1)
    · cases h3 : tb T a c with
      | true => rfl
      | false => exact absurd ⟨h1, h2, h3⟩ (((hord a ha).2 b hb).2 c hc)
  have : ansT T = 0 := by unfold ansT; rw [if_pos hg]
  simp [h0, h3, h8, this]
end Go.Proofs.YtjncbipaikmogaaDoor.Latt
