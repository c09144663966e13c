/- What acts keep of a tree; the acts, as the program has them, in plain words. -/
import Derived.Test.YtffmpomidfickaaTrPure3
namespace Go.Proofs.Ytffmpomidfickaa.Tr
open Go Go.RowKit Am
set_option linter.unusedSimpArgs false
set_option linter.unusedVariables false
open PT
structure Good (P : PT) : Prop where
  sides : P.sides
  nodup : P.panes.Nodup
  le : P.panes.length ≤ 16
theorem Good.size {P : PT} (h : Good P) : P.size ≤ 31 := by
  have := panes_size P
  have := h.le
  omega
theorem bnd_tell : ∀ {P : PT} {k : Nat}, P.sides → k + P.size ≤ 100000 → bnd (tell k P)
  | .leaf p, k, _, _ => fun x hx => by
    simp [tell] at hx; subst hx; simp [leafN]
  | .split s h a b, k, ⟨h1, h2, h3, ha, hb⟩, hk => fun x hx => by
    simp only [PT.size] at hk
    have := size_pos a
    have := size_pos b
    simp only [tell, List.mem_cons, List.mem_append] at hx
    rcases hx with hx | hx | hx
    · subst hx; simp only; omega
    · exact bnd_tell ha (by omega) x hx
    · exact bnd_tell hb (by omega) x hx
theorem mv_bnd {N : List ND} (hb : ∀ x ∈ N, 0 ≤ x.f ∧ x.f ≤ 1000 ∧ 0 ≤ x.s ∧ x.s ≤ 1000 ∧ 0 ≤ x.sh ∧ x.sh ≤ 99) {c : Int} (hc : 1 ≤ c) : bnd (N.map (mvN c (-1))) := fun x hx => by
  obtain ⟨y, hy, rfl⟩ := List.mem_map.1 hx
  obtain ⟨h1, h2, h3, h4, h5, h6⟩ := hb y hy
  unfold mvN mvZ
  split
  · exact ⟨h1, by omega, h3, by omega, h5, h6⟩
  · simp only
    refine ⟨?_, ?_, ?_, ?_, h5, h6⟩ <;> split <;> omega
theorem small_tell : ∀ {P : PT} {k : Nat}, P.sides → k + P.size ≤ 1000 → ∀ x ∈ tell k P, 0 ≤ x.f ∧ x.f ≤ 1000 ∧ 0 ≤ x.s ∧ x.s ≤ 1000 ∧ 0 ≤ x.sh ∧ x.sh ≤ 99
  | .leaf p, k, _, _ => fun x hx => by
    simp [tell] at hx; subst hx; simp [leafN]
  | .split s h a b, k, ⟨h1, h2, h3, ha, hb⟩, hk => fun x hx => by
    simp only [PT.size] at hk
    have := size_pos a
    have := size_pos b
    simp only [tell, List.mem_cons, List.mem_append] at hx
    rcases hx with hx | hx | hx
    · subst hx; simp only; omega
    · exact small_tell ha (by omega) x hx
    · exact small_tell hb (by omega) x hx
theorem above_up : ∀ {P : PT} {k u : Nat} {j : Int} {x : ND}, (tell k P)[u]? = some x → isAbove j x = true → (k : Int) + u < j
  | .leaf p, k, u, j, x, h, hx => by
    cases u with
    | zero => simp [tell] at h; subst h; simp [isAbove, leafN] at hx
    | succ u => simp [tell] at h
  | .split s hh a b, k, u, j, x, h, hx => by
    have := size_pos a
    simp only [tell] at h
    cases u with
    | zero =>
      simp at h; subst h
      simp only [isAbove, Bool.and_eq_true, Bool.or_eq_true, decide_eq_true_eq] at hx
      omega
    | succ u =>
      rw [List.getElem?_cons_succ] at h
      by_cases hu : u < (tell (k + 1) a).length
      · rw [List.getElem?_append_left hu] at h
        have := above_up h hx
        omega
      · rw [List.getElem?_append_right (by omega)] at h
        have := above_up h hx
        rw [tell_len] at this hu
        omega
theorem up_lt {P : PT} (a : Nat) (h : (tell 0 P).findIdx (isAbove a) < (tell 0 P).length) : (tell 0 P).findIdx (isAbove a) < a := by
  have h1 := List.findIdx_getElem (w := h)
  have h2 := above_up (List.getElem?_eq_getElem h) h1
  omega
theorem splitA_panes {p : PA} (q : PA) (sd sh : Int) : ∀ {P : PT} {i : Nat}, P.pos p = some i → (P.splitA p q sd sh).panes.Perm (q :: P.panes)
  | .leaf r, i, h => by
    simp only [pos] at h
    split at h
    · rename_i e; subst e
      simp only [PT.splitA, if_true, panes, List.singleton_append]
      exact List.Perm.swap q r []
    · cases h
  | .split s h a b, i, hp => by
    cases hj : a.pos p with
    | some j =>
      simp only [PT.splitA, hj, panes]
      exact (splitA_panes q sd sh hj).append_right b.panes
    | none =>
      simp only [pos, hj] at hp
      obtain ⟨j, hb, rfl⟩ := Option.map_eq_some_iff.1 hp
      simp only [PT.splitA, hj, panes]
      exact ((splitA_panes q sd sh hb).append_left a.panes).trans List.perm_middle
theorem splitA_sides {p : PA} (q : PA) {sd sh : Int} (h1 : sd = 1 ∨ sd = 2) (h2 : 1 ≤ sh) (h3 : sh ≤ 99) : ∀ {P : PT}, P.sides → (P.splitA p q sd sh).sides
  | .leaf r, _ => by
    simp only [PT.splitA]
    split
    · exact ⟨h1, h2, h3, trivial, trivial⟩
    · trivial
  | .split s h a b, ⟨q1, q2, q3, q4, q5⟩ => by
    simp only [PT.splitA]
    split
    · exact ⟨q1, q2, q3, splitA_sides q h1 h2 h3 q4, q5⟩
    · exact ⟨q1, q2, q3, q4, splitA_sides q h1 h2 h3 q5⟩
theorem good_split {P : PT} (h : Good P) (p q : PA) (sd sh : Int) : Good (P.splitR p q sd sh).2 := by
  unfold PT.splitR
  cases hp : P.pos p with
  | none => simpa using h
  | some i =>
    rw [if_neg (c := (some i : Option Nat) = none) (by simp)]
    cases hq : P.pos q with
    | some j => rw [if_pos (by simp)]; exact h
    | none =>
      rw [if_neg (by simp)]
      split
      · exact h
      · rename_i hc
        split
        · exact h
        · rename_i hl
          have hpm := splitA_panes q sd sh hp
          have hle := h.le
          refine ⟨splitA_sides q (by omega) (by omega) (by omega) h.sides, ?_, ?_⟩
          · rw [hpm.nodup_iff, List.nodup_cons]; exact ⟨pos_none.1 hq, h.nodup⟩
          · rw [hpm.length_eq, List.length_cons]; omega
theorem closeA_panes {p : PA} : ∀ P : PT, (P.closeA p).panes.Sublist P.panes
  | .leaf _ => List.Sublist.refl _
  | .split s h a b => by
    simp only [PT.closeA]
    split
    · exact List.sublist_append_right _ _
    · split
      · exact List.sublist_append_left _ _
      · exact List.Sublist.append (closeA_panes a) (closeA_panes b)
theorem closeA_sides {p : PA} : ∀ {P : PT}, P.sides → (P.closeA p).sides
  | .leaf _, _ => trivial
  | .split s h a b, ⟨q1, q2, q3, q4, q5⟩ => by
    simp only [PT.closeA]
    split
    · exact q5
    · split
      · exact q4
      · exact ⟨q1, q2, q3, closeA_sides q4, closeA_sides q5⟩
theorem good_close {P : PT} (h : Good P) (p : PA) : Good (P.closeR p).2 := by
  unfold PT.closeR
  split
  · exact h
  · split
    · exact h
    · exact ⟨closeA_sides h.sides, (closeA_panes P).nodup h.nodup, Nat.le_trans (closeA_panes P).length_le h.le⟩
theorem good_map {P : PT} (h : Good P) (p q : PA) : Good (P.mapP (swp p q)) := by
  refine ⟨mapP_sides _ h.sides, ?_, by rw [mapP_panes, List.length_map]; exact h.le⟩
  rw [mapP_panes]
  exact List.Pairwise.map _ (fun a b hab e => hab (swp_inj e)) h.nodup
theorem good_swap {P : PT} (h : Good P) (p q : PA) : Good (P.swapR p q).2 := by
  unfold PT.swapR
  split
  · exact h
  · exact good_map h p q
theorem good_share {P : PT} (h : Good P) (p : PA) (side d : Int) : Good (P.shareR p side d).2 := by
  unfold PT.shareR
  split
  · exact h
  · split
    · exact h
    · split
      · rename_i P' hP
        obtain ⟨h1, h2, h3⟩ := shareA_keep hP
        exact ⟨h3 h.sides, by rw [h2]; exact h.nodup, by rw [h2]; exact h.le⟩
      · exact h
theorem splitA_isS {p : PA} (q : PA) (sd sh : Int) : ∀ {P : PT} {i : Nat}, P.pos p = some i → (P.splitA p q sd sh).isS = true
  | .leaf r, i, h => by
    simp only [pos] at h
    split at h
    · rename_i e; simp [PT.splitA, e, PT.isS]
    · cases h
  | .split s h a b, i, hp => by
    simp only [PT.splitA]; split <;> rfl
/-- Closed again behind a split, a tree is as it was. -/
theorem split_close {p q : PA} (sd sh : Int) : ∀ {P : PT} {i : Nat}, P.pos p = some i → P.pos q = none → (P.splitA p q sd sh).closeA q = P
  | .leaf r, i, h, hq => by
    simp only [pos] at h hq
    split at h
    · rename_i e; subst e
      split at hq
      · cases hq
      · rename_i hn
        simp [PT.splitA, PT.closeA, PT.isL, hn]
    · cases h
  | .split s h a b, i, hp, hq => by
    have qa : a.pos q = none := by
      cases hx : a.pos q with
      | none => rfl
      | some j => simp [pos, hx] at hq
    have qb : b.pos q = none := by simpa [pos, qa] using hq
    have hnl : ∀ {T : PT}, T.isS = true → T.isL q = false := fun {T} hT => by cases T <;> first | rfl | cases hT
    cases hj : a.pos p with
    | some j =>
      simp only [PT.splitA, hj, PT.closeA, hnl (splitA_isS q sd sh hj), isL_none qb, closeA_none qb, split_close sd sh hj qa]
      simp
    | none =>
      simp only [pos, hj] at hp
      obtain ⟨j, hb, rfl⟩ := Option.map_eq_some_iff.1 hp
      simp only [PT.splitA, hj, PT.closeA, hnl (splitA_isS q sd sh hb), isL_none qa, closeA_none qa, split_close sd sh hb qb]
      simp
/-! ### The program's acts -/
section
variable {R : Ro} {H : AH} {t j : Nat} {cp : Cap} {P : PT}
theorem psplit (h : TreM H t j cp (tell 0 P)) (g : Good P) (p q : PA) (side share : Int) :
    ACalls Try.prog R 11 [.ptr (.mu t) 0, p.av, q.av, .int .i64 side, .int .i64 share] H (ActOut H t j ((P.splitR p q side share).1, tell 0 (P.splitR p q side share).2)) := by
  have := g.size
  rw [← split_tell g.sides]
  exact split_ok h (bnd_tell g.sides (by omega)) (by rw [tell_len]; omega) p q side share
theorem pclose (h : TreM H t j cp (tell 0 P)) (g : Good P) (p : PA) :
    ACalls Try.prog R 12 [.ptr (.mu t) 0, p.av] H (ActOut H t j ((P.closeR p).1, tell 0 (P.closeR p).2)) := by
  have hz := g.size
  rw [← close_tell g.sides g.nodup]
  refine close_ok h (bnd_tell g.sides (by omega)) p fun h1 h2 => ?_
  rw [lv_len g.sides] at h2
  have hi : ∃ i, P.pos p = some i := by
    cases hp : P.pos p with
    | some i => exact ⟨i, rfl⟩
    | none => rw [find_tell g.sides, hp, tell_len] at h1; simp only at h1; omega
  obtain ⟨i, hi⟩ := hi
  have hS : P.isS = true := by
    cases hS : P.isS with
    | true => rfl
    | false => exact absurd (isS_panes.1 hS) h2
  have e := find_tell g.sides 0 (p := p)
  rw [hi] at e
  simp only at e
  have hab := above_leaf g.sides g.nodup hi hS 0
  simp only [Int.natCast_zero, Int.zero_add, Int.ofNat_zero] at hab
  rw [e, hab, tell_len]
  have hps := panes_size P
  refine ⟨by have := size_pos P; omega, (closeA_size g.nodup hi hS).2, ?_⟩
  exact mv_bnd (fun x hx => by
    rw [List.mem_append] at hx
    rcases hx with hx | hx
    · exact small_tell g.sides (by omega) x (List.mem_of_mem_take hx)
    · exact small_tell g.sides (by omega) x (List.mem_of_mem_drop hx)) (by omega)
theorem pswap (h : TreM H t j cp (tell 0 P)) (g : Good P) (p q : PA) :
    ACalls Try.prog R 25 [.ptr (.mu t) 0, p.av, q.av] H (ActOut H t j ((P.swapR p q).1, tell 0 (P.swapR p q).2)) := by
  rw [← swap_tell g.sides g.nodup]
  exact swap_ok h p q
theorem pshare (h : TreM H t j cp (tell 0 P)) (g : Good P) (p : PA) (side d : Int) :
    ACalls Try.prog R 13 [.ptr (.mu t) 0, p.av, .int .i64 side, .int .i64 d] H (ActOut H t j ((P.shareR p side d).1, tell 0 (P.shareR p side d).2)) := by
  have := g.size
  rw [← share_tell g.sides]
  exact share_ok h (bnd_tell g.sides (by omega)) (fun a ha => up_lt a ha) p side d
theorem phas (h : TreM H t j cp (tell 0 P)) (g : Good P) (p : PA) : ACalls Try.prog R 18 [.ptr (.mu t) 0, p.av] H fun v G => G = H ∧ v = .bool (decide (P.pos p ≠ none)) := by
  have := has_ok (R := R) h.tre p
  rw [hasP_tell g.sides] at this
  exact this
theorem plen (h : TreM H t j cp (tell 0 P)) (g : Good P) : ACalls Try.prog R 15 [.ptr (.mu t) 0] H fun v G => G = H ∧ v = .int .i64 P.panes.length := by
  have := h.tre.len (R := R)
  rw [lv_len g.sides] at this
  exact this
end
end Go.Proofs.Ytffmpomidfickaa.Tr
