/- Join and Meet are associative, commutative, and absorb one another: what the law's code computes. -/
import Derived.Test.YtjglohfkpigdfaaDoorTells
namespace Go.Proofs.YtjglohfkpigdfaaDoor.Laws
open Go Go.RowKit Am Latt
set_option maxRecDepth 100000
set_option linter.unusedSimpArgs false
set_option linter.unusedVariables false
attribute [-simp] Am.binEv Am.intBin Am.read1
attribute [local simp] binEv_lss binEv_leq binEv_gtr binEv_geq binEv_eql binEv_neq binEv_add binEv_sub binEv_mul binEv_shr58 read1_ro read1_mu
variable {R : Ro} {T : List (List Bool)}
theorem jn_comm (g : GoodT T) {a b : Nat} (ha : a < T.length) (hb : b < T.length) : jn T a b = jn T b a := by
  have h := jn_lub g hb ha
  exact jn_of g ha hb ⟨h.1, h.2.2.1, h.2.1, fun y hy h1 h2 => h.2.2.2 y hy h2 h1⟩
theorem mt_comm (g : GoodT T) {a b : Nat} (ha : a < T.length) (hb : b < T.length) : mt T a b = mt T b a := by
  have h := mt_glb g hb ha
  exact mt_of g ha hb ⟨h.1, h.2.2.1, h.2.1, fun y hy h1 h2 => h.2.2.2 y hy h2 h1⟩
theorem jn_assoc (g : GoodT T) {a b c : Nat} (ha : a < T.length) (hb : b < T.length) (hc : c < T.length) : jn T (jn T a b) c = jn T a (jn T b c) := by
  have h1 := jn_lub g ha hb
  have h2 := jn_lub g hb hc
  have h3 := jn_lub g ha h2.1
  refine jn_of g h1.1 hc ⟨h3.1, h1.2.2.2 _ h3.1 h3.2.1 (g.trans hb h2.1 h3.1 h2.2.1 h3.2.2.1), g.trans hc h2.1 h3.1 h2.2.2.1 h3.2.2.1, fun y hy k1 k2 => ?_⟩
  exact h3.2.2.2 y hy (g.trans ha h1.1 hy h1.2.1 k1) (h2.2.2.2 y hy (g.trans hb h1.1 hy h1.2.2.1 k1) k2)
theorem mt_assoc (g : GoodT T) {a b c : Nat} (ha : a < T.length) (hb : b < T.length) (hc : c < T.length) : mt T (mt T a b) c = mt T a (mt T b c) := by
  have h1 := mt_glb g ha hb
  have h2 := mt_glb g hb hc
  have h3 := mt_glb g ha h2.1
  refine mt_of g h1.1 hc ⟨h3.1, h1.2.2.2 _ h3.1 h3.2.1 (g.trans h3.1 h2.1 hb h3.2.2.1 h2.2.1), g.trans h3.1 h2.1 hc h3.2.2.1 h2.2.2.1, fun y hy k1 k2 => ?_⟩
  exact h3.2.2.2 y hy (g.trans hy h1.1 ha k1 h1.2.1) (h2.2.2.2 y hy (g.trans hy h1.1 hb k1 h1.2.2.1) k2)
theorem jn_absorb (g : GoodT T) {a b : Nat} (ha : a < T.length) (hb : b < T.length) : jn T a (mt T a b) = a := by
  have h := mt_glb g ha hb
  exact jn_of g ha h.1 ⟨ha, g.refl ha, h.2.1, fun y _ k1 _ => k1⟩
theorem mt_absorb (g : GoodT T) {a b : Nat} (ha : a < T.length) (hb : b < T.length) : mt T a (jn T a b) = a := by
  have h := jn_lub g ha hb
  exact mt_of g ha h.1 ⟨ha, g.refl ha, h.2.1, fun y _ k1 _ => k1⟩
theorem jn_le (g : GoodT T) {a b : Nat} (ha : a < T.length) (hb : b < T.length) : jn T a b = b ↔ tb T a b = true := by
  constructor
  · intro h
    have := (jn_lub g ha hb).2.1
    rwa [h] at this
  · intro h
    exact jn_of g ha hb ⟨hb, h, g.refl hb, fun y _ _ k => k⟩
theorem mt_le (g : GoodT T) {a b : Nat} (ha : a < T.length) (hb : b < T.length) : mt T a b = a ↔ tb T a b = true := by
  constructor
  · intro h
    have := (mt_glb g ha hb).2.2.1
    rwa [h] at this
  · intro h
    exact mt_of g ha hb ⟨ha, g.refl ha, h, fun y _ k _ => k⟩
theorem join_nat (hT : HasTab R) (g : GoodT T) {H : AH} {l p q : Nat} (S : LatSt H l p q T) {a b : Nat} (ha : a < T.length) (hb : b < T.length) :
    ACalls Tryd.prog R 15 [.ptr (.mu l) 0, .int .i64 a, .int .i64 b] H fun v H' => v = .int .i64 (jn T a b : Nat) ∧ Stays l H H' ∧ LatSt H' l p q T := by
  refine (join_ok hT g S a b).mono ?_
  rintro v H' ⟨rfl, h⟩
  exact ⟨by simp [jnI, isL_of ha, isL_of hb], h⟩
theorem meet_nat (hT : HasTab R) (g : GoodT T) {H : AH} {l p q : Nat} (S : LatSt H l p q T) {a b : Nat} (ha : a < T.length) (hb : b < T.length) :
    ACalls Tryd.prog R 16 [.ptr (.mu l) 0, .int .i64 a, .int .i64 b] H fun v H' => v = .int .i64 (mt T a b : Nat) ∧ Stays l H H' ∧ LatSt H' l p q T := by
  refine (meet_ok hT g S a b).mono ?_
  rintro v H' ⟨rfl, h⟩
  exact ⟨by simp [mtI, isL_of ha, isL_of hb], h⟩
theorem below_nat (g : GoodT T) {H : AH} {l p q : Nat} (S : LatSt H l p q T) {a b : Nat} (ha : a < T.length) (hb : b < T.length) :
    ACalls Tryd.prog R 21 [.ptr (.mu l) 0, .int .i64 a, .int .i64 b] H fun v H' => v = .bool (tb T a b) ∧ H' = H := by
  refine (below_ok (S.latAt g) a b).mono ?_
  rintro v H' ⟨rfl, h⟩
  exact ⟨by rw [bel_tbI, tbI_nat ha hb], h⟩
set_option maxHeartbeats 16000000 in
theorem laws (hle : ∀ b o v, Laid.ro b o = some v → R b o = some v) (tv : AV) (T : List (List Bool)) (hg : Grid R tv T) (a : Int) (_ : (Lit.int .i64 a).wf = true) (b : Int) (_ : (Lit.int .i64 b).wf = true) (c : Int) (_ : (Lit.int .i64 c).wf = true) :
    ACalls Tryd.prog R 7 [tv, .int .i64 a, .int .i64 b, .int .i64 c] [] fun v _ => v = .bool true := by
  have hT := Tells.tab_of hle
  refine ACalls.of_wpE Fns.ok7 (by simp [Fns.a7]) ?_
  simp [Fns.a7]
  refine (ACalls.ro hle (Nobody.awake _)).mono ?_
  rintro v H' ⟨rfl, rfl⟩
  simp
  refine (Tells.wide_ok (grid_tab hg _)).mono ?_
  rintro v H' ⟨rfl, w, rfl, hw⟩
  cases w with
  | true => simp
  | false =>
    simp
    refine (new_ok hT _ tv T (grid_tab hg _) (grid_len hg)).mono ?_
    rintro v H1 ⟨k1, ⟨g, l, p, q, rfl, hin, _, _, _⟩ | ⟨ng, rfl⟩⟩
    rotate_left
    · have hne := errT_ne T
      simp [hne, eqEv]
    have S0 := hin.st
    simp
    refine (len_ok (S0.latAt g)).mono ?_
    rintro v H2 ⟨rfl, rfl⟩
    rw [upT_len]
    have hout : ∀ (e : Env) (t : Nat), e t = tv → (AOp.lenL (.t t)).eval Tryd.prog R e H2 = some (.int .i64 T.length, H2) := by
      intro e t he
      rcases (grid_tab hg H2).lenEv with ⟨rfl, h0⟩ | ⟨L, off, cap, rfl⟩
      · simp [he, h0]
      · simp [he]
    rcases (grid_tab hg H2).lenEv with ⟨rfl, h0⟩ | ⟨L, off, cap, rfl⟩
    · have := g.lo; omega
    clear hout
    by_cases ha0 : a < 0
    · simp [ha0]
    by_cases hb0 : b < 0
    · simp [ha0, hb0]
    by_cases hc0 : c < 0
    · simp [ha0, hb0, hc0]
    obtain ⟨a, rfl⟩ : ∃ n : Nat, a = n := ⟨a.toNat, by omega⟩
    obtain ⟨b, rfl⟩ : ∃ n : Nat, b = n := ⟨b.toNat, by omega⟩
    obtain ⟨c, rfl⟩ : ∃ n : Nat, c = n := ⟨c.toNat, by omega⟩
    by_cases ha : a < T.length
    rotate_left
    · have hab1 : (T.length : Int) ≤ (a : Int) := by omega
      have hab2 : T.length ≤ a := by omega
      simp [ha0, hb0, hc0, hab1, hab2]
    have ha1 : ¬ (T.length : Int) ≤ (a : Int) := by omega
    have ha2 : ¬ T.length ≤ a := by omega
    by_cases hb : b < T.length
    rotate_left
    · have hab1 : (T.length : Int) ≤ (b : Int) := by omega
      have hab2 : T.length ≤ b := by omega
      simp [ha0, hb0, hc0, ha1, ha2, hab1, hab2]
    have hb1 : ¬ (T.length : Int) ≤ (b : Int) := by omega
    have hb2 : ¬ T.length ≤ b := by omega
    by_cases hc : c < T.length
    rotate_left
    · have hab1 : (T.length : Int) ≤ (c : Int) := by omega
      have hab2 : T.length ≤ c := by omega
      simp [ha0, hb0, hc0, ha1, ha2, hb1, hb2, hab1, hab2]
    have hc1 : ¬ (T.length : Int) ≤ (c : Int) := by omega
    have hc2 : ¬ T.length ≤ c := by omega
    have hass := jn_assoc g ha hb hc
    have hmass := mt_assoc g ha hb hc
    have hcom := jn_comm g hb ha
    have hmcom := mt_comm g hb ha
    have habs1 := jn_absorb g ha hb
    have habs2 := mt_absorb g ha hb
    have haa := g.refl ha
    have htop := tp_top g ha
    have hbot := bt_bot g ha
    · simp [ha0, hb0, hc0, ha1, ha2, hb1, hb2, hc1, hc2]
      refine (join_nat hT g S0 ha hb).mono ?_
      rintro v H100 ⟨rfl, st0, S1⟩
      simp [hass, hcom, hmass, hmcom, habs1, habs2]
      refine (join_nat hT g S1 (jn_lt g ha hb) hc).mono ?_
      rintro v H101 ⟨rfl, st1, S2⟩
      simp [hass, hcom, hmass, hmcom, habs1, habs2]
      refine (join_nat hT g S2 hb hc).mono ?_
      rintro v H102 ⟨rfl, st2, S3⟩
      simp [hass, hcom, hmass, hmcom, habs1, habs2]
      refine (join_nat hT g S3 ha (jn_lt g hb hc)).mono ?_
      rintro v H103 ⟨rfl, st3, S4⟩
      simp [hass, hcom, hmass, hmcom, habs1, habs2]
      refine (meet_nat hT g S4 ha hb).mono ?_
      rintro v H104 ⟨rfl, st4, S5⟩
      simp [hass, hcom, hmass, hmcom, habs1, habs2]
      refine (meet_nat hT g S5 (mt_lt g ha hb) hc).mono ?_
      rintro v H105 ⟨rfl, st5, S6⟩
      simp [hass, hcom, hmass, hmcom, habs1, habs2]
      refine (meet_nat hT g S6 hb hc).mono ?_
      rintro v H106 ⟨rfl, st6, S7⟩
      simp [hass, hcom, hmass, hmcom, habs1, habs2]
      refine (meet_nat hT g S7 ha (mt_lt g hb hc)).mono ?_
      rintro v H107 ⟨rfl, st7, S8⟩
      simp [hass, hcom, hmass, hmcom, habs1, habs2]
      refine (join_nat hT g S8 ha hb).mono ?_
      rintro v H108 ⟨rfl, st8, S9⟩
      simp [hass, hcom, hmass, hmcom, habs1, habs2]
      refine (join_nat hT g S9 hb ha).mono ?_
      rintro v H109 ⟨rfl, st9, S10⟩
      simp [hass, hcom, hmass, hmcom, habs1, habs2]
      refine (meet_nat hT g S10 ha hb).mono ?_
      rintro v H110 ⟨rfl, st10, S11⟩
      simp [hass, hcom, hmass, hmcom, habs1, habs2]
      refine (meet_nat hT g S11 hb ha).mono ?_
      rintro v H111 ⟨rfl, st11, S12⟩
      simp [hass, hcom, hmass, hmcom, habs1, habs2]
      refine (meet_nat hT g S12 ha hb).mono ?_
      rintro v H112 ⟨rfl, st12, S13⟩
      simp [hass, hcom, hmass, hmcom, habs1, habs2]
      refine (join_nat hT g S13 ha (mt_lt g ha hb)).mono ?_
      rintro v H113 ⟨rfl, st13, S14⟩
      simp [hass, hcom, hmass, hmcom, habs1, habs2]
      refine (join_nat hT g S14 ha hb).mono ?_
      rintro v H114 ⟨rfl, st14, S15⟩
      simp [hass, hcom, hmass, hmcom, habs1, habs2]
      refine (meet_nat hT g S15 ha (jn_lt g ha hb)).mono ?_
      rintro v H115 ⟨rfl, st15, S16⟩
      simp [hass, hcom, hmass, hmcom, habs1, habs2]
      refine (below_nat g S16 ha hb).mono ?_
      rintro v H ⟨rfl, rfl⟩
      simp [hass, hcom, hmass, hmcom, habs1, habs2]
      refine (join_nat hT g S16 ha hb).mono ?_
      rintro v H ⟨rfl, stx, S17⟩
      cases hx : tb T a b with
      | true =>
        have hjb := (jn_le g ha hb).2 hx
        have hma := (mt_le g ha hb).2 hx
        simp [hass, hcom, hmass, hmcom, habs1, habs2, hjb, hma, eqEv]
        refine (below_nat g S17 ha hb).mono ?_
        rintro v H ⟨rfl, rfl⟩
        rw [hx]
        simp
        refine (meet_nat hT g S17 ha hb).mono ?_
        rintro v H ⟨rfl, sty, S18⟩
        simp [hma, eqEv]
        refine (below_nat g S18 ha hb).mono ?_
        rintro v H ⟨rfl, rfl⟩
        rw [hx]
        simp
        refine (below_nat g S18 hb hc).mono ?_
        rintro v H ⟨rfl, rfl⟩
        cases hy : tb T b c with
        | true =>
          simp
          refine (below_nat g S18 ha hc).mono ?_
          rintro v H ⟨rfl, rfl⟩
          rw [g.trans ha hb hc hx hy]
          simp
          refine (below_nat g S18 ha ha).mono ?_
          rintro v H ⟨rfl, rfl⟩
          rw [haa]
          simp
          refine (top_ok hT g S18).mono ?_
          rintro v H ⟨rfl, stz, Sz⟩
          simp
          refine (below_nat g Sz ha (tp_lt g)).mono ?_
          rintro v H ⟨rfl, rfl⟩
          rw [htop]
          simp
          refine (bottom_ok hT g Sz).mono ?_
          rintro v H ⟨rfl, stw, Sw⟩
          simp
          refine (below_nat g Sw (bt_lt g) ha).mono ?_
          rintro v H ⟨rfl, rfl⟩
          rw [hbot]
          simp
        | false =>
          simp
          refine (below_nat g S18 ha ha).mono ?_
          rintro v H ⟨rfl, rfl⟩
          rw [haa]
          simp
          refine (top_ok hT g S18).mono ?_
          rintro v H ⟨rfl, stz, Sz⟩
          simp
          refine (below_nat g Sz ha (tp_lt g)).mono ?_
          rintro v H ⟨rfl, rfl⟩
          rw [htop]
          simp
          refine (bottom_ok hT g Sz).mono ?_
          rintro v H ⟨rfl, stw, Sw⟩
          simp
          refine (below_nat g Sw (bt_lt g) ha).mono ?_
          rintro v H ⟨rfl, rfl⟩
          rw [hbot]
          simp
      | false =>
        have hjb : ¬ jn T a b = b := fun h => by rw [(jn_le g ha hb).1 h] at hx; cases hx
        have hma : ¬ mt T a b = a := fun h => by rw [(mt_le g ha hb).1 h] at hx; cases hx
        have hjb' : ¬ ((jn T a b : Nat) : Int) = (b : Int) := by omega
        have hma' : ¬ ((mt T a b : Nat) : Int) = (a : Int) := by omega
        simp [hass, hcom, hmass, hmcom, habs1, habs2, hjb, hma, hjb', hma', eqEv]
        refine (below_nat g S17 ha hb).mono ?_
        rintro v H ⟨rfl, rfl⟩
        rw [hx]
        simp
        refine (meet_nat hT g S17 ha hb).mono ?_
        rintro v H ⟨rfl, sty, S18⟩
        simp [hma, hma', eqEv]
        refine (below_nat g S18 ha hb).mono ?_
        rintro v H ⟨rfl, rfl⟩
        rw [hx]
        simp
        refine (below_nat g S18 ha ha).mono ?_
        rintro v H ⟨rfl, rfl⟩
        rw [haa]
        simp
        refine (top_ok hT g S18).mono ?_
        rintro v H ⟨rfl, stz, Sz⟩
        simp
        refine (below_nat g Sz ha (tp_lt g)).mono ?_
        rintro v H ⟨rfl, rfl⟩
        rw [htop]
        simp
        refine (bottom_ok hT g Sz).mono ?_
        rintro v H ⟨rfl, stw, Sw⟩
        simp
        refine (below_nat g Sw (bt_lt g) ha).mono ?_
        rintro v H ⟨rfl, rfl⟩
        rw [hbot]
        simp
end Go.Proofs.YtjglohfkpigdfaaDoor.Laws
