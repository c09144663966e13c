/- Whether a lattice is a table's: what the law's code computes of a lattice that is. -/
import Derived.Test.YtjglohfkpigdfaaDoorLatFacts
import Derived.Test.YtjglohfkpigdfaaDoorLatDown
import Derived.Test.YtjglohfkpigdfaaDoorLatRef
namespace Go.Proofs.YtjglohfkpigdfaaDoor.Latt
open Go Go.RowKit Am
set_option maxRecDepth 100000
set_option linter.unusedSimpArgs false
set_option linter.unusedVariables false
attribute [-simp] Am.binEv Am.intBin Am.read1
attribute [local simp] binEv_lss binEv_leq binEv_gtr binEv_geq binEv_eql binEv_neq binEv_add binEv_sub binEv_mul binEv_shr58 read1_ro read1_mu
variable {R : Ro}
theorem bel_tbI (T : List (List Bool)) (a b : Int) : bel (upT T) a b = tbI T a b := by
  unfold bel tbI
  rw [upT_len]
  cases ha : isL T.length a with
  | false => rfl
  | true => cases hb : isL T.length b with
    | false => rfl
    | true =>
      obtain ⟨x, rfl, hx⟩ := isL_nat ha
      obtain ⟨y, rfl, hy⟩ := isL_nat hb
      simp [upT_tb hx hy]
theorem downs_get {up : List Nat} {a : Int} {c : Nat} (hb : bel up c a = true) : ∀ m, c < m → (downs up a m)[(downs up a c).length]? = some c
  | 0, h => absurd h (by omega)
  | m + 1, h => by
    rw [downs_succ]
    by_cases hm : c = m
    · subst hm
      rw [hb, List.getElem?_append_right (Nat.le_refl _), Nat.sub_self]; rfl
    · have := downs_get hb m (by omega)
      rw [List.getElem?_append_left (List.getElem?_eq_some_iff.1 this).1]
      exact this
theorem rjoin_eq {T : List (List Bool)} (g : GoodT T) {a b : Int} {v : AV} (h : (v = .int .i64 (-1) ∧ ∀ x, ¬ LubI T a b x) ∨ ∃ x : Nat, v = .int .i64 x ∧ LubI T a b x) : v = .int .i64 (jnI T a b) := by
  unfold jnI
  cases ha : isL T.length a with
  | false =>
    rcases h with ⟨rfl, _⟩ | ⟨x, _, h2⟩
    · simp
    · have := (tbI_lt h2.2.1).1; rw [ha] at this; cases this
  | true => cases hb : isL T.length b with
    | false =>
      rcases h with ⟨rfl, _⟩ | ⟨x, _, h2⟩
      · simp
      · have := (tbI_lt h2.2.2.1).1; rw [hb] at this; cases this
    | true =>
      obtain ⟨x, rfl, hx⟩ := isL_nat ha
      obtain ⟨y, rfl, hy⟩ := isL_nat hb
      rcases h with ⟨_, h1⟩ | ⟨z, rfl, h2⟩
      · exact absurd ((lubI_iff hx hy).2 (jn_lub g hx hy)) (h1 _)
      · simp [jn_of g hx hy ((lubI_iff hx hy).1 h2)]
theorem rmeet_eq {T : List (List Bool)} (g : GoodT T) {a b : Int} {v : AV} (h : (v = .int .i64 (-1) ∧ ∀ x, ¬ GlbI T a b x) ∨ ∃ x : Nat, v = .int .i64 x ∧ GlbI T a b x) : v = .int .i64 (mtI T a b) := by
  unfold mtI
  cases ha : isL T.length a with
  | false =>
    rcases h with ⟨rfl, _⟩ | ⟨x, _, h2⟩
    · simp
    · have := (tbI_lt h2.2.1).2.1; rw [ha] at this; cases this
  | true => cases hb : isL T.length b with
    | false =>
      rcases h with ⟨rfl, _⟩ | ⟨x, _, h2⟩
      · simp
      · have := (tbI_lt h2.2.2.1).2.1; rw [hb] at this; cases this
    | true =>
      obtain ⟨x, rfl, hx⟩ := isL_nat ha
      obtain ⟨y, rfl, hy⟩ := isL_nat hb
      rcases h with ⟨_, h1⟩ | ⟨z, rfl, h2⟩
      · exact absurd ((glbI_iff hx hy).2 (mt_glb g hx hy)) (h1 _)
      · simp [mt_of g hx hy ((glbI_iff hx hy).1 h2)]
theorem TabIn.stays {H H' : AH} {l : Nat} {tv : AV} {T : List (List Bool)} (h : TabIn R (H.set l .dead) tv T) (hs : Stays l H H') : TabIn R (H'.set l .dead) tv T := by
  refine h.frame fun i hi => ?_
  simp only [List.length_set] at hi
  by_cases hil : i = l
  · subst hil
    rw [List.getElem?_set, if_pos rfl, List.getElem?_set, if_pos rfl, if_pos hi, if_pos (by have := hs.1; omega)]
  · rw [List.getElem?_set, if_neg (Ne.symm hil), List.getElem?_set, if_neg (Ne.symm hil)]
    exact hs.2 i hi hil
theorem Stays.of_keeps {l : Nat} {H H' : AH} (h : Keeps H H') : Stays l H H' := ⟨h.1, fun i hi _ => h.2 i hi⟩
set_option maxHeartbeats 8000000 in
theorem tells_ok (hT : HasTab R) {T : List (List Bool)} (g : GoodT T) {H : AH} {l p q : Nat} (S : LatSt H l p q T) {tv : AV} (ht : TabIn R (H.set l .dead) tv T) (a b : Int) :
    ACalls Tryd.prog R 19 [.ptr (.mu l) 0, tv, .int .i64 a, .int .i64 b] H fun v _ => v = .bool true := by
  have hn := g.hi
  have hsq : SqT T := g.rows
  have hul : (upT T).length = T.length := upT_len T
  refine ACalls.of_wpE Fns.ok19 (by simp [Fns.a19]) ?_
  simp [Fns.a19]
  refine (downset_ok (S.latAt g) a).mono ?_
  rintro dv H1 hd
  rw [hul] at hd
  have S1 := S.keeps hd.keeps
  have ht1 := ht.stays (Stays.of_keeps hd.keeps)
  rcases ht.lenEv with ⟨_, h0⟩ | ⟨tl, to, tc, rfl⟩
  · have := g.lo; omega
  simp
  have hdl : ∀ (e : Env) (t : Nat), e t = dv → (AOp.lenL (.t t)).eval Tryd.prog R e H1 = some (.int .i64 ((downs (upT T) a T.length).length : Nat), H1) := by
    intro e t he
    rcases hd.row with ⟨h1, h2, _⟩ | ⟨j, h1, _, _⟩
    · simp [he, h1, h2]
    · simp [he, h1]
  refine AWp.loop (fun e H2 => H2 = H1 ∧ e 0 = .ptr (.mu l) 0 ∧ e 1 = .slice tl to T.length tc ∧ e 2 = .int .i64 a ∧ e 3 = .int .i64 b ∧ e 9 = dv ∧ ∃ c : Nat, e 11 = .int .i64 c ∧ c ≤ T.length ∧ e 10 = .int .i64 ((downs (upT T) a c).length : Nat))
    (fun e _ => match e 11 with | .int _ i => ((T.length : Int) - i).toNat | _ => 0) ⟨rfl, by simp, by simp, by simp, by simp, by simp, 0, by simp, by omega, by simp [downs]⟩ ?_
  rintro e H2 ⟨rfl, h0, h1, h2, h3, h9, c, h11, hc, h10⟩
  refine wpE_sound _ ?_
  by_cases hcl : c < T.length
  · have hcl' : (c : Int) < (T.length : Int) := by omega
    have hw1 := i64_small ((c : Int) + 1) (by omega) (by omega)
    simp [h0, h1, h2, h3, h9, h10, h11, hcl, hcl']
    refine (rbelow_ok ht1.off hsq c a).mono ?_
    rintro v H3 ⟨rfl, rfl⟩
    have hsu := downs_succ (upT T) a c
    rw [bel_tbI] at hsu
    cases hb : tbI T c a with
    | false =>
      rw [hb] at hsu
      simp at hsu
      simp [h0, h1, h2, h3, h9, h10, h11, hw1]
      exact ⟨⟨c + 1, by simp, by omega, by rw [hsu]⟩, by omega⟩
    | true =>
      rw [hb] at hsu
      simp at hsu
      have hget := downs_get (up := upT T) (a := a) (c := c) (by rw [bel_tbI]; exact hb) T.length hcl
      have hgl := (List.getElem?_eq_some_iff.1 hget).1
      have hdle := downs_le (upT T) a c
      rcases hd.row with ⟨_, hz, _⟩ | ⟨j, rfl, hj, _⟩
      · omega
      have hrd : ((downs (upT T) a T.length).map fun (b : Nat) => AV.int .i64 b)[(downs (upT T) a c).length]? = some (.int .i64 c) := by rw [List.getElem?_map, hget]; rfl
      obtain ⟨kk, hkk⟩ : ∃ kk, kk = (downs (upT T) a c).length := ⟨_, rfl⟩
      rw [← hkk] at hgl hrd h10 hdle hget
      have hge : ∀ h, (downs (upT T) a T.length)[kk]'h = c := fun h => Option.some.inj ((List.getElem?_eq_getElem h).symm.trans hget)
      have hgl' : ¬ ((downs (upT T) a T.length).length : Int) ≤ (kk : Int) := by omega
      have hgl2 : ¬ (downs (upT T) a T.length).length ≤ kk := by omega
      have hgl3 : (kk : Int) < ((downs (upT T) a T.length).length : Int) := by omega
      have hw2 := i64_small ((kk : Int) + 1) (by omega) (by omega)
      simp [h0, h1, h2, h3, h9, h10, h11, hw1, hw2, hgl, hgl', hgl2, hgl3, hj, hrd, hge]
      exact ⟨⟨c + 1, by simp, by omega, by rw [hsu]; simp [hkk]⟩, by omega⟩
  · obtain rfl : c = T.length := by omega
    simp [h0, h1, h2, h3, h9, h10, h11]
    refine (len_ok (S1.latAt g)).mono ?_
    rintro v H3 ⟨rfl, rfl⟩
    rw [hul]
    simp [h0, h1, h2, h3, h9, h10, h11]
    refine (below_ok (S1.latAt g) a b).mono ?_
    rintro v H3 ⟨rfl, rfl⟩
    simp [h0, h1, h2, h3, h9, h10, h11]
    refine (rbelow_ok ht1.off hsq a b).mono ?_
    rintro v H3 ⟨rfl, rfl⟩
    rw [bel_tbI]
    simp [h0, h1, h2, h3, h9, h10, h11, eqEv]
    refine (join_ok hT g S1 a b).mono ?_
    rintro v H4 ⟨rfl, st4, S4⟩
    have ht4 := ht1.stays st4
    simp [h0, h1, h2, h3, h9, h10, h11]
    refine (rjoin_ok ht4.off hsq (by omega) a b).mono ?_
    rintro v H5 ⟨rfl, hv⟩
    obtain rfl := rjoin_eq g hv
    simp [h0, h1, h2, h3, h9, h10, h11]
    refine (meet_ok hT g S4 a b).mono ?_
    rintro v H6 ⟨rfl, st6, S6⟩
    have ht6 := ht4.stays st6
    simp [h0, h1, h2, h3, h9, h10, h11]
    refine (rmeet_ok ht6.off hsq (by omega) a b).mono ?_
    rintro v H7 ⟨rfl, hv⟩
    obtain rfl := rmeet_eq g hv
    rcases hd.row with ⟨rfl, hz, _⟩ | ⟨j, rfl, hj, _⟩
    · simp [h0, h1, h2, h3, h9, h10, h11, hz]
    · simp [h0, h1, h2, h3, h9, h10, h11]
end Go.Proofs.YtjglohfkpigdfaaDoor.Latt
