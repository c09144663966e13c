/- The chapter's examples; tables that make none: what the law's code computes. -/
import Derived.Test.YtjglohfkpigdfaaDoorLatFacts
import Derived.Test.YtjglohfkpigdfaaDoorNobody
namespace Go.Proofs.YtjglohfkpigdfaaDoor.Known
open Go Go.RowKit Am Latt
set_option maxRecDepth 100000
set_option linter.unusedSimpArgs false
set_option linter.unusedVariables false
attribute [-simp] Am.binEv Am.intBin Am.read1
attribute [local simp] binEv_lss binEv_leq binEv_gtr binEv_geq binEv_eql binEv_neq binEv_add binEv_sub binEv_mul binEv_shr58 read1_ro read1_mu
theorem hasTab : HasTab Laid.ro := by
  have h : ∀ j : Fin 64, Laid.zs[j.val]? = some ((Lib.deBruijn64tab.getD j.val 0 : Nat) : Int) := by decide
  intro j hj
  have := h ⟨j, hj⟩
  unfold Laid.ro
  rw [if_pos rfl, this]
  rfl
/-- A table written out. -/
theorem tabIn_of {R : Ro} {H : AH} {k t t' : Nat} {T : List (List Bool)} {ps : List Nat} (hk : H[k]? = some (.cells ((ps.zip T).map fun x => .slice (.mu x.1) 0 x.2.length (.known x.2.length)) t)) (hl : ps.length = T.length)
    (h : ∀ (i : Nat) p r, ps[i]? = some p → T[i]? = some r → H[p]? = some (.cells (r.map .bool) t')) : TabIn R H (.slice (.mu k) 0 T.length (.known T.length)) T := by
  refine ⟨_, sees_cells hk (by simp [hl]), by simp [hl], fun i r hr => ?_⟩
  have hi := (List.getElem?_eq_some_iff.1 hr).1
  have hp : ps[i]? = some ps[i] := List.getElem?_eq_getElem (by omega)
  refine ⟨.slice (.mu ps[i]) 0 r.length (.known r.length), ?_, .inl (sees_cells (h i _ r hp hr) (by simp))⟩
  rw [List.getElem?_map, (List.getElem?_zip_eq_some (z := (ps[i], r))).2 ⟨hp, hr⟩]
  rfl
def T1 : List (List Bool) := [[true, false], [false, true]]
def T3 : List (List Bool) := [[true, true], [true]]
def T4 : List (List Bool) := [[false]]
def T5 : List (List Bool) := [[true, true], [true, true]]
theorem bad1 : ¬ GoodT T1 := fun g => by
  obtain ⟨h1, h2, h3, _⟩ := jn_lub g (a := 0) (b := 1) (by decide) (by decide)
  have : ∀ x, x < 2 → tb T1 0 x = true → tb T1 1 x = true → False := by decide
  exact this _ h1 h2 h3
theorem bad3 : ¬ GoodT T3 := fun g => by
  have := g.rows [true] (by decide)
  exact absurd this (by decide)
theorem bad4 : ¬ GoodT T4 := fun g => by
  have := g.refl (a := 0) (by decide)
  exact absurd this (by decide)
theorem bad5 : ¬ GoodT T5 := fun g => by
  have := g.anti (a := 0) (b := 1) (by decide) (by decide) (by decide) (by decide)
  exact absurd this (by decide)
theorem new_no {R : Ro} (hT : HasTab R) (H : AH) (tv : AV) (T : List (List Bool)) (ht : TabIn R H tv T) (hmax : T.length ≤ 9223372036854775807) (hb : ¬ GoodT T) : ACalls Tryd.prog R 9 [tv] H fun v H' => Keeps H H' ∧ v = .tuple [.nilptr, .int .i64 (errT T)] := by
  refine (new_ok hT H tv T ht hmax).mono ?_
  rintro v H' ⟨hk, ⟨g, _⟩ | ⟨_, hv⟩⟩
  · exact absurd g hb
  · exact ⟨hk, hv⟩
theorem known : ACalls Tryd.prog Laid.ro 3 [] [] fun v _ => v = .bool true := by
  refine ACalls.of_wpE Fns.ok3 (by simp [Fns.a3]) ?_
  simp [Fns.a3, fillA, splice, zerosEv, AV.oneCell]
  refine (new_no hasTab _ _ T1 (tabIn_of (ps := [0, 1]) (t := 26) (t' := 4) (by rfl) (by rfl) ?_) (by decide) bad1).mono ?_
  · intro i p r hp hr
    match i, hp, hr with
    | 0, hp, hr => cases hp; cases hr; rfl
    | 1, hp, hr => cases hp; cases hr; rfl
    | i + 2, hp, hr => cases hp
  rintro v H1 ⟨k1, rfl⟩
  rw [show errT T1 = 1 by decide]
  simp
  refine (new_no hasTab _ _ [] ⟨[], .inl ⟨rfl, rfl⟩, rfl, fun i r h => by cases h⟩ (by decide) (fun g => by have := g.lo; exact absurd this (by decide))).mono ?_
  rintro v H2 ⟨k2, rfl⟩
  rw [show errT [] = 3 by decide]
  simp
  refine (new_no hasTab _ _ T3 (tabIn_of (ps := [H2.length, H2.length + 1]) (t := 26) (t' := 4) (by simp [T3, splice, zerosEv]) (by rfl) ?_) (by decide) bad3).mono ?_
  · intro i p r hp hr
    match i, hp, hr with
    | 0, hp, hr => cases hp; cases hr; simp [splice, zerosEv]
    | 1, hp, hr => cases hp; cases hr; simp [splice, zerosEv]
    | i + 2, hp, hr => cases hp
  rintro v H3 ⟨k3, rfl⟩
  rw [show errT T3 = 8 by decide]
  simp
  refine (new_no hasTab _ _ T4 (tabIn_of (ps := [H3.length]) (t := 26) (t' := 4) (by simp [T4, splice, zerosEv]) (by rfl) ?_) (by decide) bad4).mono ?_
  · intro i p r hp hr
    match i, hp, hr with
    | 0, hp, hr => cases hp; cases hr; simp [splice, zerosEv]
    | i + 1, hp, hr => cases hp
  rintro v H4 ⟨k4, rfl⟩
  rw [show errT T4 = 1 by decide]
  simp
  refine (new_no hasTab _ _ T5 (tabIn_of (ps := [H4.length, H4.length + 1]) (t := 26) (t' := 4) (by simp [T5, splice, zerosEv]) (by rfl) ?_) (by decide) bad5).mono ?_
  · intro i p r hp hr
    match i, hp, hr with
    | 0, hp, hr => cases hp; cases hr; simp [splice, zerosEv]
    | 1, hp, hr => cases hp; cases hr; simp [splice, zerosEv]
    | i + 2, hp, hr => cases hp
  rintro v H5 ⟨k5, rfl⟩
  rw [show errT T5 = 1 by decide]
  simp
  refine (rank_no hasTab _ 64 1 (fun h => by have := h.2.2.2.2; exact absurd this (by decide))).mono ?_
  rintro v H6 ⟨k6, rfl⟩
  simp
  refine (rank_sure hasTab _ 1 6 ⟨by decide, by decide, by decide, by decide, by decide⟩).mono ?_
  rintro v H7 ⟨k7, l, p, q, rfl, in7, _, _, _⟩
  simp
  refine (rank_sure hasTab _ 3 2 ⟨by decide, by decide, by decide, by decide, by decide⟩).mono ?_
  rintro v H8 ⟨k8, l', p', q', rfl, in8, hl8, hp8, hq8⟩
  simp
  refine (Nobody.awake _).mono ?_
  rintro v H9 ⟨rfl, rfl⟩
  have g7 : GoodT (rankT 1 64) := rank_good (r := 1) (e := 6) (by decide) (by decide)
  have g8 : GoodT (rankT 3 12) := rank_good (r := 3) (e := 2) (by decide) (by decide)
  change LatIn _ l p q (upT (rankT 1 64)) (dnT (rankT 1 64)) at in7
  change LatIn _ l' p' q' (upT (rankT 3 12)) (dnT (rankT 3 12)) at in8
  have ll : l < H7.length := (List.getElem?_eq_some_iff.1 in7.box).1
  have S7 := (in7.keeps k8).st
  simp
  refine (len_ok (S7.latAt g7)).mono ?_
  rintro v H10 ⟨rfl, rfl⟩
  rw [show (upT (rankT 1 64)).length = 64 by rw [upT_len]; rfl]
  simp
  refine (top_ok hasTab g7 S7).mono ?_
  rintro v H11 ⟨rfl, st1, S71⟩
  rw [tp_of g7 (x := 63) (by decide) (by decide +kernel)]
  simp
  refine (bottom_ok hasTab g7 S71).mono ?_
  rintro v H12 ⟨rfl, st2, S72⟩
  rw [bt_of g7 (x := 0) (by decide) (by decide +kernel)]
  have S8 := (in8.stays (st1.trans st2) (by omega) (by omega) (by omega)).st
  simp
  refine (len_ok (S8.latAt g8)).mono ?_
  rintro v H13 ⟨rfl, rfl⟩
  rw [show (upT (rankT 3 12)).length = 12 by rw [upT_len]; rfl]
  simp
  refine (top_ok hasTab g8 S8).mono ?_
  rintro v H14 ⟨rfl, st3, S81⟩
  rw [tp_of g8 (x := 11) (by decide) (by decide +kernel)]
  simp
  refine (join_ok hasTab g8 S81 2 3).mono ?_
  rintro v H15 ⟨rfl, st4, S82⟩
  have hj : jnI (rankT 3 12) 2 3 = 5 := by
    have : jn (rankT 3 12) 2 3 = 5 := jn_of g8 (by decide) (by decide) ⟨by decide, by decide, by decide, by decide +kernel⟩
    show (if isL 12 2 && isL 12 3 then ((jn (rankT 3 12) 2 3 : Nat) : Int) else -1) = 5
    rw [this]; rfl
  rw [hj]
  simp
  refine (meet_ok hasTab g8 S82 2 3).mono ?_
  rintro v H16 ⟨rfl, st5, S83⟩
  have hm : mtI (rankT 3 12) 2 3 = 0 := by
    have : mt (rankT 3 12) 2 3 = 0 := mt_of g8 (by decide) (by decide) ⟨by decide, by decide, by decide, by decide +kernel⟩
    show (if isL 12 2 && isL 12 3 then ((mt (rankT 3 12) 2 3 : Nat) : Int) else -1) = 0
    rw [this]; rfl
  rw [hm]
  simp
end Go.Proofs.YtjglohfkpigdfaaDoor.Known
