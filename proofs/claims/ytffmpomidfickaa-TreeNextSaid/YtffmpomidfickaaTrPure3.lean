/- Swap and Share of the document's tree, as the nodes told have it; what acts keep. -/
import Derived.Test.YtffmpomidfickaaTrPure2
namespace Go.Proofs.Ytffmpomidfickaa.Tr
open Go Go.RowKit Am
set_option linter.unusedSimpArgs false
set_option linter.unusedVariables false
open PT
/-! ### Swap -/
def PT.mapP (f : PA → PA) : PT → PT
  | .leaf r => .leaf (f r)
  | .split s h a b => .split s h (a.mapP f) (b.mapP f)
theorem mapP_size (f : PA → PA) : ∀ P : PT, (P.mapP f).size = P.size
  | .leaf _ => rfl
  | .split _ _ a b => by simp [PT.mapP, size, mapP_size f a, mapP_size f b]
theorem mapP_panes (f : PA → PA) : ∀ P : PT, (P.mapP f).panes = P.panes.map f
  | .leaf _ => rfl
  | .split _ _ a b => by simp [PT.mapP, panes, mapP_panes f a, mapP_panes f b]
theorem mapP_sides (f : PA → PA) : ∀ {P : PT}, P.sides → (P.mapP f).sides
  | .leaf _, _ => trivial
  | .split _ _ a b, ⟨h1, h2, h3, h4, h5⟩ => ⟨h1, h2, h3, mapP_sides f h4, mapP_sides f h5⟩
theorem mapP_map (f g : PA → PA) : ∀ P : PT, (P.mapP f).mapP g = P.mapP (fun x => g (f x))
  | .leaf _ => rfl
  | .split _ _ a b => by simp [PT.mapP, mapP_map f g a, mapP_map f g b]
theorem mapP_id {f : PA → PA} (h : ∀ x, f x = x) : ∀ P : PT, P.mapP f = P
  | .leaf _ => by simp [PT.mapP, h]
  | .split _ _ a b => by simp [PT.mapP, mapP_id h a, mapP_id h b]
def mapN (f : PA → PA) (x : ND) : ND := if x.side = 0 then x.withPa (f x.pa) else x
theorem map_tell (f : PA → PA) : ∀ {P : PT}, P.sides → ∀ k, (tell k P).map (mapN f) = tell k (P.mapP f)
  | .leaf r, _, k => by simp [tell, PT.mapP, mapN, leafN, ND.withPa, ND.pa]
  | .split s h a b, ⟨h1, _, _, ha, hb⟩, k => by
    have hs : ¬ s = 0 := by omega
    simp [tell, PT.mapP, map_tell f ha, map_tell f hb, mapN, hs, mapP_size]
theorem leaf_at {x : ND} : ∀ {P : PT} {k j : Nat}, P.sides → P.panes.Nodup → (tell k P)[j]? = some x → x.side = 0 → P.pos x.pa = some j
  | .leaf r, k, j, _, _, h, hx => by
    simp only [tell] at h
    cases j with
    | zero => simp at h; subst h; simp [pos, leafN, ND.pa]
    | succ j => simp at h
  | .split s hh a b, k, j, ⟨h1, _, _, ha, hb⟩, hn, h, hx => by
    have hn' := hn
    simp only [panes] at hn
    rw [List.nodup_append] at hn
    obtain ⟨na, nb, _⟩ := hn
    simp only [tell] at h
    cases j with
    | zero => simp at h; subst h; simp only at hx; omega
    | succ j =>
      rw [List.getElem?_cons_succ] at h
      by_cases hj : j < (tell (k + 1) a).length
      · rw [List.getElem?_append_left hj] at h
        have := leaf_at ha na h hx
        simp only [pos, this]; congr 1; omega
      · rw [List.getElem?_append_right (by omega)] at h
        have := leaf_at hb nb h hx
        rw [tell_len] at this hj
        cases hpa : a.pos x.pa with
        | some i => rw [nodup_not hn' hpa] at this; cases this
        | none => simp only [pos, hpa, this, Option.map_some]; congr 1; omega
theorem pos_leaf {p : PA} {P : PT} {i : Nat} (hs : P.sides) (h : P.pos p = some i) (k : Nat) : ∃ x, (tell k P)[i]? = some x ∧ x.side = 0 ∧ x.pa = p := by
  have hf := find_tell hs k (p := p)
  rw [h] at hf
  simp only at hf
  have hlt : (tell k P).findIdx (isLeaf p) < (tell k P).length := by rw [hf, tell_len]; exact pos_lt h
  have := List.findIdx_getElem (w := hlt)
  simp only [isLeaf, Bool.and_eq_true, decide_eq_true_eq] at this
  refine ⟨(tell k P)[i]'(by rw [tell_len]; exact pos_lt h), List.getElem?_eq_getElem _, ?_, ?_⟩
  · have h1 := this.1; simpa [hf] using h1
  · have h1 := this.2; simpa [hf] using h1
def swp (p q : PA) (r : PA) : PA := if r = p then q else if r = q then p else r
theorem swp_swp (p q r : PA) : swp p q (swp p q r) = r := by
  unfold swp
  by_cases h1 : r = p
  · subst h1
    by_cases h2 : q = r
    · subst h2; simp
    · simp [h2]
  · by_cases h2 : r = q
    · subst h2; simp [h1]
    · simp [h1, h2]
theorem swp_inj {p q a b : PA} (h : swp p q a = swp p q b) : a = b := by rw [← swp_swp p q a, h, swp_swp]
theorem setPa_get {N : List ND} {i : Nat} {p : PA} {x : ND} (h : N[i]? = some x) : setPa i p N = N.set i (x.withPa p) := by unfold setPa; rw [h]
theorem swap_list {p q : PA} {P : PT} {i j : Nat} (hs : P.sides) (hn : P.panes.Nodup) (hi : P.pos p = some i) (hj : P.pos q = some j) (k : Nat) : setPa j p (setPa i q (tell k P)) = tell k (P.mapP (swp p q)) := by
  obtain ⟨x, hx, hx0, hxp⟩ := pos_leaf hs hi k
  obtain ⟨y, hy, hy0, hyq⟩ := pos_leaf hs hj k
  have hil := (List.getElem?_eq_some_iff.1 hx).1
  have hjl := (List.getElem?_eq_some_iff.1 hy).1
  rw [setPa_get hx, ← map_tell _ hs]
  apply List.ext_getElem?
  intro m
  by_cases hij : i = j
  · subst hij
    rw [hx] at hy; cases hy
    rw [setPa_get (List.getElem?_set_self hil), List.set_set, List.getElem?_set, List.getElem?_map]
    by_cases hm : i = m
    · subst hm
      rw [if_pos rfl, if_pos hil, hx, Option.map_some]
      have : p = q := by rw [← hxp, ← hyq]
      subst this
      simp [mapN, hx0, ND.withPa, hxp, swp]
    · rw [if_neg hm]
      cases hz : (tell k P)[m]? with
      | none => rfl
      | some z =>
        rw [Option.map_some]
        congr 1
        unfold mapN
        split
        · rename_i h0
          have := leaf_at hs hn hz h0
          have h1 : z.pa ≠ p := fun e => by rw [e, hi] at this; cases this; exact hm rfl
          have h2 : z.pa ≠ q := fun e => by rw [e, hj] at this; cases this; exact hm rfl
          simp only [swp, if_neg h1, if_neg h2]; rfl
        · rfl
  · rw [setPa_get (x := y) (by rw [List.getElem?_set_ne hij]; exact hy), List.getElem?_set, List.getElem?_map]
    by_cases hm : j = m
    · subst hm
      rw [if_pos rfl, if_pos (by simpa using hjl), hy, Option.map_some]
      congr 1
      unfold mapN
      rw [if_pos hy0]
      congr 1
      unfold swp
      rw [hyq]
      by_cases h : q = p
      · rw [if_pos h, h]
      · rw [if_neg h, if_pos rfl]
    · rw [if_neg hm, List.getElem?_set]
      by_cases hm2 : i = m
      · subst hm2
        rw [if_pos rfl, if_pos hil, hx, Option.map_some]
        congr 1
        unfold mapN
        rw [if_pos hx0]
        congr 1
        unfold swp
        rw [hxp, if_pos rfl]
      · rw [if_neg hm2]
        cases hz : (tell k P)[m]? with
        | none => rfl
        | some z =>
          rw [Option.map_some]
          congr 1
          unfold mapN
          split
          · rename_i h0
            have := leaf_at hs hn hz h0
            have h1 : z.pa ≠ p := fun e => by rw [e, hi] at this; cases this; exact hm2 rfl
            have h2 : z.pa ≠ q := fun e => by rw [e, hj] at this; cases this; exact hm rfl
            simp only [swp, if_neg h1, if_neg h2]; rfl
          · rfl
def PT.swapR (p q : PA) (P : PT) : Int × PT := if P.pos p = none ∨ P.pos q = none then (4, P) else (0, P.mapP (swp p q))
theorem swap_tell {P : PT} (hs : P.sides) (hn : P.panes.Nodup) (p q : PA) : swapN p q (tell 0 P) = ((P.swapR p q).1, tell 0 (P.swapR p q).2) := by
  unfold swapN PT.swapR
  rw [idx_tell hs, idx_tell hs]
  cases h : P.pos p with
  | none => simp
  | some i =>
    cases h2 : P.pos q with
    | none => simp
    | some j =>
      have f1 : (tell 0 P).findIdx (isLeaf p) = i := by rw [find_tell hs, h]
      have f2 : (tell 0 P).findIdx (isLeaf q) = j := by rw [find_tell hs, h2]
      rw [if_neg (by simp only; omega), if_neg (by simp), f1, f2, swap_list hs hn h h2]
/-! ### Share -/
def PT.shareA (side : Int) (p : PA) (d : Int) : PT → Option PT
  | .leaf _ => none
  | .split s h a b => match a.pos p with
    | some _ => match a.shareA side p d with
      | some a' => some (.split s h a' b)
      | none => if s = side then some (.split s (clamp 1 99 (h + d)) a b) else none
    | none => match b.shareA side p d with
      | some b' => some (.split s h a b')
      | none => if s = side then some (.split s (clamp 1 99 (h - d)) a b) else none
theorem shareA_keep {side : Int} {p : PA} {d : Int} : ∀ {P P' : PT}, P.shareA side p d = some P' → P'.size = P.size ∧ P'.panes = P.panes ∧ (P.sides → P'.sides)
  | .leaf _, P', h => by cases h
  | .split s h a b, P', hp => by
    have hc : ∀ z, 1 ≤ clamp 1 99 z ∧ clamp 1 99 z ≤ 99 := fun z => clamp_le (by omega) z
    simp only [PT.shareA] at hp
    split at hp
    · split at hp
      · rename_i a' ha
        cases hp
        obtain ⟨h1, h2, h3⟩ := shareA_keep ha
        exact ⟨by simp [size, h1], by simp [panes, h2], fun ⟨q1, q2, q3, q4, q5⟩ => ⟨q1, q2, q3, h3 q4, q5⟩⟩
      · split at hp <;> cases hp
        exact ⟨rfl, rfl, fun ⟨q1, q2, q3, q4, q5⟩ => ⟨q1, (hc _).1, (hc _).2, q4, q5⟩⟩
    · split at hp
      · rename_i b' hb
        cases hp
        obtain ⟨h1, h2, h3⟩ := shareA_keep hb
        exact ⟨by simp [size, h1], by simp [panes, h2], fun ⟨q1, q2, q3, q4, q5⟩ => ⟨q1, q2, q3, q4, h3 q5⟩⟩
      · split at hp <;> cases hp
        exact ⟨rfl, rfl, fun ⟨q1, q2, q3, q4, q5⟩ => ⟨q1, (hc _).1, (hc _).2, q4, q5⟩⟩
theorem all_of_find {f : ND → Bool} {N : List ND} (h : N.findIdx f = N.length) : ∀ x ∈ N, f x = false := fun x hx => by
  cases hf : f x with
  | false => rfl
  | true =>
    have := List.findIdx_lt_length.2 ⟨x, hx, hf⟩
    omega
theorem find_none {f : ND → Bool} {N : List ND} (h : ∀ x ∈ N, f x = false) : N.findIdx f = N.length := by
  rw [List.findIdx_eq_length]; exact h
theorem find_mid {f : ND → Bool} {A B : List ND} {r : ND} (h : ∀ x ∈ A, f x = false) (hr : f r = true) : idx f (A ++ r :: B) = (A.length : Int) := by
  have e : (A ++ r :: B).findIdx f = A.length := by
    rw [find_app, find_none h, if_neg (by omega), List.findIdx_cons, hr, cond_true, Nat.add_zero]
  unfold idx
  rw [e, if_pos (by simp)]
def setSh (x : ND) (c d : Int) : ND := { x with sh := clamp 1 99 (if x.f = c then x.sh + d else x.sh - d) }
theorem set_mid (A B : List ND) (r x : ND) : (A ++ r :: B).set A.length x = A ++ x :: B := by
  rw [List.set_append, if_neg (by omega)]; simp
theorem get_mid (A B : List ND) (r : ND) : (A ++ r :: B)[A.length]? = some r := by
  rw [List.getElem?_append_right (Nat.le_refl _)]; simp
theorem climb_tell {side : Int} {p : PA} {d : Int} : ∀ {P : PT} {i k : Nat} {pre post N : List ND}, P.sides → P.pos p = some i → pre.length = k → (∀ x ∈ pre, ∀ j : Int, (k : Int) < j → j < (k : Int) + P.size → isAbove j x = false) → N = pre ++ (tell k P ++ post) →
    match P.shareA side p d with
    | some P' => ∃ (c u : Nat) (x : ND), climb side N (k + i) = (c, (u : Int)) ∧ N[u]? = some x ∧ N.set u (setSh x c d) = pre ++ (tell k P' ++ post)
    | none => climb side N (k + i) = climb side N k
  | .leaf r, i, k, pre, post, N, _, h, _, _, _ => by
    simp only [pos] at h
    split at h <;> cases h
    simp [PT.shareA]
  | .split s h a b, i, k, pre, post, N, ⟨h1, _, _, ha, hb⟩, hp, hl, hpre, hN => by
    have za := size_pos a
    have zb := size_pos b
    have hs0 : ¬ s = 0 := by omega
    obtain ⟨r, hr⟩ : ∃ r : ND, r = ⟨s, (k : Int) + 1, (k : Int) + 1 + a.size, h, 0, 0, 0⟩ := ⟨_, rfl⟩
    have hN2 : N = pre ++ r :: (tell (k + 1) a ++ tell (k + 1 + a.size) b ++ post) := by rw [hN, hr]; simp [tell]
    have hside : sideAt N k = s := by
      unfold sideAt
      rw [hN2, ← hl, get_mid, hr]
    simp only [size] at hpre
    cases hj : a.pos p with
    | some j =>
      simp only [pos, hj] at hp
      cases hp
      have hN3 : N = (pre ++ [r]) ++ (tell (k + 1) a ++ (tell (k + 1 + a.size) b ++ post)) := by rw [hN2]; simp
      have ih := climb_tell (side := side) (d := d) (i := j) (k := k + 1) (pre := pre ++ [r]) (post := tell (k + 1 + a.size) b ++ post) (N := N) ha hj (by simp [hl]) (fun x hx m hm1 hm2 => by
        rw [List.mem_append] at hx
        rcases hx with hx | hx
        · exact hpre x hx m (by omega) (by omega)
        · simp at hx; subst hx; rw [hr]
          simp only [isAbove, Bool.and_eq_false_iff, Bool.or_eq_false_iff, decide_eq_false_iff_not]
          right; constructor <;> omega) hN3
      have e0 : k + (1 + j) = k + 1 + j := by omega
      rw [e0]
      simp only [PT.shareA, hj]
      cases hsh : a.shareA side p d with
      | some a' =>
        rw [hsh] at ih
        obtain ⟨c, u, x, q1, q2, q3⟩ := ih
        refine ⟨c, u, x, q1, q2, ?_⟩
        rw [q3, hr]
        simp [tell, (shareA_keep hsh).1]
      | none =>
        rw [hsh] at ih
        simp only at ih
        have hup : idx (isAbove ((k + 1 : Nat) : Int)) N = (k : Int) := by
          rw [hN2, find_mid (fun x hx => hpre x hx _ (by omega) (by omega)) (by rw [hr]; simp [isAbove, hs0]), hl]
        by_cases hss : s = side
        · rw [if_pos hss]
          refine ⟨k + 1, k, r, by rw [ih, climb_stop hup (by rw [hside]; exact hss)], by rw [hN2, ← hl, get_mid], ?_⟩
          rw [hN2, ← hl, set_mid, hr]
          simp [tell, setSh, hl]
        · rw [if_neg hss]
          rw [ih, climb_step hup (by omega) (by rw [hside]; exact hss)]
    | none =>
      simp only [pos, hj] at hp
      obtain ⟨j, hb', rfl⟩ := Option.map_eq_some_iff.1 hp
      have hN3 : N = (pre ++ r :: tell (k + 1) a) ++ (tell (k + 1 + a.size) b ++ post) := by rw [hN2]; simp
      have hal := all_of_find (above_none (P := a) (k := k + 1) (j := 0) (.inl (by omega)))
      have ih := climb_tell (side := side) (d := d) (i := j) (k := k + 1 + a.size) (pre := pre ++ r :: tell (k + 1) a) (post := post) (N := N) hb hb' (by simp [hl, tell_len]; omega) (fun x hx m hm1 hm2 => by
        rw [List.mem_append] at hx
        rcases hx with hx | hx
        · exact hpre x hx m (by omega) (by omega)
        · rw [List.mem_cons] at hx
          rcases hx with hx | hx
          · subst hx; rw [hr]
            simp only [isAbove, Bool.and_eq_false_iff, Bool.or_eq_false_iff, decide_eq_false_iff_not]
            right; constructor <;> omega
          · exact all_of_find (above_none (P := a) (k := k + 1) (j := m) (.inr (by omega))) x hx) hN3
      have e0 : k + (1 + a.size + j) = k + 1 + a.size + j := by omega
      rw [e0]
      simp only [PT.shareA, hj]
      cases hsh : b.shareA side p d with
      | some b' =>
        rw [hsh] at ih
        obtain ⟨c, u, x, q1, q2, q3⟩ := ih
        refine ⟨c, u, x, q1, q2, ?_⟩
        rw [q3, hr]
        simp [tell]
      | none =>
        rw [hsh] at ih
        simp only at ih
        have hup : idx (isAbove ((k + 1 + a.size : Nat) : Int)) N = (k : Int) := by
          rw [hN2, find_mid (fun x hx => hpre x hx _ (by omega) (by omega)) (by rw [hr]; simp [isAbove, hs0]), hl]
        by_cases hss : s = side
        · rw [if_pos hss]
          refine ⟨k + 1 + a.size, k, r, by rw [ih, climb_stop hup (by rw [hside]; exact hss)], by rw [hN2, ← hl, get_mid], ?_⟩
          have hne : ¬ (k : Int) + 1 = ((k + 1 + a.size : Nat) : Int) := by omega
          have hset : setSh r ((k + 1 + a.size : Nat) : Int) d = ⟨s, (k : Int) + 1, (k : Int) + 1 + a.size, clamp 1 99 (h - d), 0, 0, 0⟩ := by
            rw [hr]; simp only [setSh, if_neg hne]
          have hset2 := set_mid pre (tell (k + 1) a ++ tell (k + 1 + a.size) b ++ post) r (setSh r ((k + 1 + a.size : Nat) : Int) d)
          rw [hl] at hset2
          rw [hN2, hset2, hset]
          simp [tell]
        · rw [if_neg hss]
          rw [ih, climb_step hup (by omega) (by rw [hside]; exact hss)]
def PT.shareR (p : PA) (side d : Int) (P : PT) : Int × PT :=
  if P.pos p = none then (4, P)
  else if ¬ (side = 1 ∨ side = 2) then (1, P)
  else match P.shareA side p (clamp (-99) 99 d) with
    | some P' => (0, P')
    | none => (9, P)
theorem share_tell {P : PT} (hs : P.sides) (p : PA) (side d : Int) : shareN p side d (tell 0 P) = ((P.shareR p side d).1, tell 0 (P.shareR p side d).2) := by
  unfold shareN PT.shareR
  rw [idx_tell hs]
  cases h : P.pos p with
  | none => rfl
  | some i =>
    have n1 : ¬ (match (some i : Option Nat) with | some i => (i : Int) | none => -1) < 0 := by simp only; omega
    rw [if_neg n1, if_neg (c := (some i : Option Nat) = none) (by simp)]
    by_cases hsd : ¬ (side = 1 ∨ side = 2)
    · rw [if_pos hsd, if_pos hsd]
    rw [if_neg hsd, if_neg hsd, find_tell hs, h]
    simp only
    have := climb_tell (side := side) (d := clamp (-99) 99 d) (pre := []) (post := []) (k := 0) hs h rfl (fun x hx => by cases hx) rfl
    simp only [List.nil_append, List.append_nil, Nat.zero_add] at this
    unfold shareL
    cases hsh : P.shareA side p (clamp (-99) 99 d) with
    | some P' =>
      rw [hsh] at this
      obtain ⟨c, u, x, q1, q2, q3⟩ := this
      rw [q1]
      simp only [Int.ofNat_eq_natCast]
      show (match (tell 0 P)[u]? with | some x => _ | none => _) = _
      rw [q2]
      simp only
      rw [← q3]; rfl
    | none =>
      rw [hsh] at this
      simp only at this
      have h0 : idx (isAbove ((0 : Nat) : Int)) (tell 0 P) = -1 := by
        unfold idx
        rw [above_none (.inl (by omega)), if_neg (by omega)]
      rw [this, climb_none h0]
      rfl
end Go.Proofs.Ytffmpomidfickaa.Tr
