/- The lattice of ranks and sets. -/
import Derived.Test.YtjncbipaikmogaaDoorLatNew
namespace Go.Proofs.YtjncbipaikmogaaDoor.Latt
open Go Go.RowKit Am
set_option maxRecDepth 100000
set_option linter.unusedSimpArgs false
set_option linter.unusedVariables false
attribute [-simp] Am.binEv Am.intBin Am.read1
attribute [local simp] binEv_lss binEv_leq binEv_gtr binEv_geq binEv_eql binEv_neq binEv_add binEv_sub binEv_mul binEv_shr58 read1_ro read1_mu
variable {R : Ro}
def rk (r x y : Nat) : Bool := decide (x % r ≤ y % r) && decide (nandN (x / r) (y / r) = 0)
def rankT (r n : Nat) : List (List Bool) := (List.range n).map fun x => (List.range n).map (rk r x)
theorem rankT_len (r n : Nat) : (rankT r n).length = n := by simp [rankT]
theorem rankT_get (r : Nat) {n x : Nat} (h : x < n) : (rankT r n)[x]? = some ((List.range n).map (rk r x)) := by simp [rankT, h]
/-- How much of row 'x' is there. -/
def upto (n a b x : Nat) : Nat := if x < a then n else if x = a then b else 0
def rowV (r x k : Nat) : List AV := (List.range k).map fun y => AV.bool (rk r x y)
theorem rowV_len (r x k : Nat) : (rowV r x k).length = k := by simp [rowV]
theorem rowV_succ (r x k : Nat) : rowV r x (k + 1) = rowV r x k ++ [.bool (rk r x k)] := by simp [rowV, List.range_succ]
/-- The table, half made. -/
structure Half (H0 H : AH) (t n r a b : Nat) (rows : List AV) (f : Nat → Nat) : Prop where
  tbl : H[t]? = some (.cells rows 59)
  len : rows.length = n
  row : ∀ x, x < n → (upto n a b x = 0 ∧ rows[x]? = some .nilslice) ∨ (0 < upto n a b x ∧ rows[x]? = some (.slice (.mu (f x)) 0 (upto n a b x) (.opn 0)) ∧ H[f x]? = some (.row (rowV r x (upto n a b x)) 4 1) ∧ H0.length ≤ f x ∧ f x ≠ t)
  inj : ∀ x y, x < n → y < n → 0 < upto n a b x → 0 < upto n a b y → x ≠ y → f x ≠ f y
  keeps : Keeps H0 H
  low : H0.length ≤ t
theorem upto_succ {n a b x : Nat} : upto n a (b + 1) x = if x = a then b + 1 else upto n a b x := by
  unfold upto
  by_cases h : x = a
  · subst h; simp
  · simp [h]
theorem upto_here (n a b : Nat) : upto n a b a = b := by simp [upto]
theorem upto_row (n a x : Nat) : upto n a n x = upto n (a + 1) 0 x := by
  unfold upto
  by_cases h1 : x < a
  · rw [if_pos h1, if_pos (by omega)]
  · rw [if_neg h1]
    by_cases h2 : x = a
    · rw [if_pos h2, if_pos (by omega)]
    · rw [if_neg h2, if_neg (by omega)]; split <;> rfl
theorem Half.next {H0 H : AH} {t n r a : Nat} {rows : List AV} {f : Nat → Nat} (h : Half H0 H t n r a n rows f) : Half H0 H t n r (a + 1) 0 rows f := by
  obtain ⟨h1, h2, h3, h4, h5, h6⟩ := h
  refine ⟨h1, h2, fun x hx => ?_, fun x y hx hy => ?_, h5, h6⟩
  · rw [← upto_row]; exact h3 x hx
  · rw [← upto_row, ← upto_row]; exact h4 x y hx hy
/-- One more of row 'a': where the new row lies at the heap's end. -/
theorem Half.step {H0 H H' : AH} {t n r a b : Nat} {rows : List AV} {f : Nat → Nat} (h : Half H0 H t n r a b rows f) (ha : a < n) (hb : b < n) {k : Nat}
    (hk : H0.length ≤ k) (hkt : k ≠ t) (hnew : H'[k]? = some (.row (rowV r a (b + 1)) 4 1)) (htb : H'[t]? = some (.cells (rows.set a (.slice (.mu k) 0 (b + 1) (.opn 0))) 59))
    (hfr : ∀ x, x < n → x ≠ a → 0 < upto n a b x → H'[f x]? = H[f x]? ∧ f x ≠ k) (hke : Keeps H0 H') : Half H0 H' t n r a (b + 1) (rows.set a (.slice (.mu k) 0 (b + 1) (.opn 0))) (fun x => if x = a then k else f x) := by
  refine ⟨htb, by simp [h.len], fun x hx => ?_, fun x y hx hy h1 h2 hxy => ?_, hke, h.low⟩
  · by_cases hxa : x = a
    · subst hxa
      right
      rw [upto_here]
      refine ⟨by omega, ?_, by simpa using hnew, by simpa using hk, by simpa using hkt⟩
      rw [List.getElem?_set, if_pos rfl, if_pos (by rw [h.len]; exact hx)]; simp
    · rw [upto_succ, if_neg hxa, List.getElem?_set, if_neg (Ne.symm hxa)]
      rcases h.row x hx with h1 | ⟨h1, h2, h3, h4, h5⟩
      · exact .inl h1
      · right
        simp only [if_neg hxa]
        exact ⟨h1, h2, by rw [(hfr x hx hxa h1).1]; exact h3, h4, h5⟩
  · rw [upto_succ] at h1 h2
    by_cases hxa : x = a
    · subst hxa
      have hya : ¬ y = x := fun e => hxy e.symm
      rw [if_neg hya] at h2
      simp only [if_pos rfl, if_neg hya]
      exact Ne.symm (hfr y hy hya h2).2
    · rw [if_neg hxa] at h1
      simp only [if_neg hxa]
      by_cases hya : y = a
      · rw [if_pos hya]; exact (hfr x hx hxa h1).2
      · rw [if_neg hya] at h2 ⊢
        exact h.inj x y hx hy h1 h2 hxy
theorem Half.tab {H0 H : AH} {t n r : Nat} {rows : List AV} {f : Nat → Nat} (h : Half H0 H t n r n 0 rows f) (hn : 0 < n) : TabIn R H (.slice (.mu t) 0 n (.known n)) (rankT r n) := by
  refine ⟨rows, sees_cells h.tbl h.len.symm, by rw [h.len, rankT_len], fun i r' hr' => ?_⟩
  have hi : i < n := by have := (List.getElem?_eq_some_iff.1 hr').1; rw [rankT_len] at this; exact this
  rw [rankT_get r hi] at hr'
  cases hr'
  have hu : upto n n 0 i = n := by unfold upto; rw [if_pos hi]
  rcases h.row i hi with ⟨h1, _⟩ | ⟨_, h2, h3, _, _⟩
  · rw [hu] at h1; omega
  · rw [hu] at h2 h3
    refine ⟨_, h2, .inl (.inr ⟨.mu (f i), 0, .opn 0, by simp, fun j x hx => ?_⟩)⟩
    rw [read1_mu, h3]
    simpa [rowV, Function.comp_def] using hx
/-- What ranks and sets there may be. -/
def RankMay (r s : Int) : Prop := 1 ≤ r ∧ r ≤ 64 ∧ 0 ≤ s ∧ s ≤ 6 ∧ r.toNat * 2 ^ s.toNat ≤ 64
def RankYes (r n : Nat) (H : AH) (v : AV) (H' : AH) : Prop := (GoodT (rankT r n) ∧ ∃ l p q, v = .tuple [.ptr (.mu l) 0, .int .i64 0] ∧ LatIn H' l p q (upT (rankT r n)) (dnT (rankT r n)) ∧ H.length ≤ l ∧ H.length ≤ p ∧ H.length ≤ q) ∨ (¬ GoodT (rankT r n) ∧ ∃ c : Int, c ≠ 0 ∧ v = .tuple [.nilptr, .int .i64 c])
def RankPost (r s : Int) (H : AH) (v : AV) (H' : AH) : Prop := Keeps H H' ∧ ((RankMay r s ∧ RankYes r.toNat (r.toNat * 2 ^ s.toNat) H v H') ∨ (¬ RankMay r s ∧ v = .tuple [.nilptr, .int .i64 1]))
theorem writeN_rows {H : AH} {t : Nat} {rows : List AV} {ty : TypeId} (h : H[t]? = some (.cells rows ty)) {i : Nat} (hi : i < rows.length) (v : AV) (hv : v.oneCell = true) : writeN H t i [v] = some (H.set t (.cells (rows.set i v) ty)) := by
  unfold writeN
  rw [h]
  have hi' : i + 1 ≤ rows.length := hi
  simp only [AO.content, AO.withContent, splice_one hi]
  rw [if_pos ⟨hi', by rw [List.all_cons, hv]; rfl⟩]
set_option maxHeartbeats 8000000 in
theorem rank_yes (hT : HasTab R) (H : AH) (rn sn n : Nat) (h1 : 1 ≤ rn) (h2 : rn ≤ 64) (h4 : sn ≤ 6) (hn0 : 0 < n) (hn : n ≤ 64) (hshl : binEv .shl (.int .i64 (rn : Int)) (.int .i64 (sn : Int)) = some (.int .i64 (n : Int))) :
    ACalls Tryd.prog R 16 [.int .i64 rn, .int .i64 sn] H fun v H' => Keeps H H' ∧ RankYes rn n H v H' := by
  refine ACalls.of_wpE Fns.ok16 (by simp [Fns.a16]) ?_
  have g1 : ¬ (rn : Int) < 1 := by omega
  have g2 : ¬ (64 : Int) < rn := by omega
  have g3 : ¬ (sn : Int) < 0 := by omega
  have g4 : ¬ (6 : Int) < sn := by omega
  have g5 : ¬ (64 : Int) < (n : Int) := by omega
  have g5' : ¬ 64 < n := by omega
  have g6 : ¬ 64 < rn := by omega
  have g7 : ¬ 6 < sn := by omega
  have hz1 : 24 * (n : Int) ≤ 281474976710656 := by omega
  have hz2 : (n : Int) ≤ 9223372036854775807 := by omega
  have g8 : ¬ rn = 0 := by omega
  simp [Fns.a16, g1, g2, g3, g4, g6, g7, g8, hshl, g5, g5', hz1, hz2, AV.oneCell]
  refine AWp.loop (fun e H' => e 0 = .int .i64 rn ∧ e 6 = .int .i64 n ∧ e 7 = .slice (.mu H.length) 0 n (.known n) ∧ e 35 = .int .i64 n ∧ ∃ a : Nat, e 36 = .int .i64 a ∧ a ≤ n ∧ ∃ rows f, Half H H' H.length n rn a 0 rows f)
    (fun e _ => match e 36 with | .int _ i => ((n : Int) - i).toNat | _ => 0) ⟨by simp, by simp, by simp, by simp, 0, by simp, by omega, List.replicate n .nilslice, fun _ => 0, ⟨by simp [zerosEv_one], by simp, fun x hx => .inl ⟨by simp [upto], by simp [hx]⟩, fun x y _ _ h => by simp [upto] at h, Keeps.app _ _, Nat.le_refl _⟩⟩ ?_
  rintro e H1 ⟨h0, h6, h7, h35, a, h36, ha, rows, f, hH⟩
  refine wpE_sound _ ?_
  by_cases hal : a < n
  · have hal' : (a : Int) < (n : Int) := by omega
    have hw1 := i64_small ((a : Int) + 1) (by omega) (by omega)
    simp [h0, h6, h7, h35, h36, hal, hal']
    refine AWp.loop (fun e H' => e 0 = .int .i64 rn ∧ e 6 = .int .i64 n ∧ e 7 = .slice (.mu H.length) 0 n (.known n) ∧ e 8 = .int .i64 a ∧ e 35 = .int .i64 n ∧ e 36 = .int .i64 a ∧ e 39 = .int .i64 n ∧ ∃ b : Nat, e 40 = .int .i64 b ∧ b ≤ n ∧ ∃ rows f, Half H H' H.length n rn a b rows f)
      (fun e _ => match e 40 with | .int _ i => ((n : Int) - i).toNat | _ => 0) ⟨by simp [h0], by simp [h6], by simp [h7], by simp, by simp [h35], by simp [h36], by simp, 0, by simp, by omega, rows, f, hH⟩ ?_
    rintro e H2 ⟨h0, h6, h7, h8, h35, h36, h39, b, h40, hb, rows, f, hH⟩
    refine wpE_sound _ ?_
    by_cases hbl : b < n
    · have hbl' : (b : Int) < (n : Int) := by omega
      have hw2 := i64_small ((b : Int) + 1) (by omega) (by omega)
      obtain ⟨ra, hra⟩ : ∃ x, x = a % rn := ⟨_, rfl⟩
      obtain ⟨rb, hrb⟩ : ∃ x, x = b % rn := ⟨_, rfl⟩
      obtain ⟨qa, hqa⟩ : ∃ x, x = a / rn := ⟨_, rfl⟩
      obtain ⟨qb, hqb⟩ : ∃ x, x = b / rn := ⟨_, rfl⟩
      obtain ⟨nn, hnn⟩ : ∃ x, x = nandN qa qb := ⟨_, rfl⟩
      have fra : binEv .rem (.int .i64 (a : Int)) (.int .i64 (rn : Int)) = some (.int .i64 (ra : Int)) := by rw [hra]; exact binEv_remI a rn g8
      have frb : binEv .rem (.int .i64 (b : Int)) (.int .i64 (rn : Int)) = some (.int .i64 (rb : Int)) := by rw [hrb]; exact binEv_remI b rn g8
      have fqa : binEv .quo (.int .i64 (a : Int)) (.int .i64 (rn : Int)) = some (.int .i64 (qa : Int)) := by rw [hqa]; exact binEv_quoI a rn g8 (by omega)
      have fqb : binEv .quo (.int .i64 (b : Int)) (.int .i64 (rn : Int)) = some (.int .i64 (qb : Int)) := by rw [hqb]; exact binEv_quoI b rn g8 (by omega)
      have hqal : qa ≤ a := by rw [hqa]; exact Nat.div_le_self _ _
      have hqbl : qb ≤ b := by rw [hqb]; exact Nat.div_le_self _ _
      have fnn : binEv .andNot (.int .i64 (qa : Int)) (.int .i64 (qb : Int)) = some (.int .i64 (nn : Int)) := by rw [hnn]; exact binEv_nandI qa qb (by omega) (by omega)
      have hrk : rk rn a b = (decide (ra ≤ rb) && decide (nn = 0)) := by unfold rk; rw [hra, hrb, hnn, hqa, hqb]
      obtain ⟨vb, hvb⟩ : ∃ x, x = rk rn a b := ⟨_, rfl⟩
      have htb := hH.tbl
      have ht0 := (List.getElem?_eq_some_iff.1 htb).1
      have hrl := hH.len
      have hbt1 : (H2 ++ [AO.cells [AV.bool vb] 4])[H.length]? = some (.cells rows 59) := by rw [List.getElem?_append_left ht0]; exact htb
      have hke := hH.keeps
      have hH2l : H.length ≤ H2.length := hke.1
      simp [h0, h6, h7, h8, h39, h40, hbl, hbl']
      refine AWp.sched [0, 1, 2, 3, 4, 5, 6, 7, 8, 9, 10, 11, 12, 13, 14, 15, 16, 17, 18, 19, 20, 21, 22, 23, 24, 25, 26] Fns.mixed (by decide +kernel) ?_
      rcases hH.row a hal with ⟨hu, hrow⟩ | ⟨hu, hrow, hfa, hfa2, hfa3⟩
      · -- the row's first
        rw [upto_here] at hu
        have hrow' : ∀ h : a < rows.length, rows[a]'h = .nilslice := fun h => Option.some.inj ((List.getElem?_eq_getElem h).symm.trans hrow)
        have e2 : AV.slice (.mu (H2.length + 1)) 0 1 (.opn 0) = AV.slice (.mu (H2.length + 1)) 0 (b + 1) (.opn 0) := by rw [hu]
        have hbt2 : (H2 ++ [AO.cells [AV.bool vb] 4, AO.row [AV.bool vb] 4 1])[H.length]? = some (.cells rows 59) := by rw [List.getElem?_append_left ht0]; exact htb
        have hwr := writeN_rows hbt2 (i := a) (by omega) (.slice (.mu (H2.length + 1)) 0 1 (.opn 0)) rfl
        have hstep := hH.step (H' := (H2 ++ [AO.cells [AV.bool vb] 4, AO.row [AV.bool vb] 4 1]).set H.length (.cells (rows.set a (.slice (.mu (H2.length + 1)) 0 1 (.opn 0))) 59)) hal hbl (k := H2.length + 1) (by omega) (by omega)
          (by rw [List.getElem?_set, if_neg (by omega)]; rw [List.getElem?_append_right (by omega)]; rw [hvb, hu]; simp [rowV]) (by rw [List.getElem?_set, if_pos rfl, if_pos (by simp; omega), e2])
          (fun x hx hxa hu => by
            rcases hH.row x hx with ⟨hx0, _⟩ | ⟨_, _, hx3, hx4, hx5⟩
            · omega
            · have hxl := (List.getElem?_eq_some_iff.1 hx3).1
              exact ⟨by rw [List.getElem?_set, if_neg (Ne.symm hx5), List.getElem?_append_left hxl], by omega⟩)
          ((hke.trans (Keeps.app _ _)).set (Nat.le_refl _) _)
        rw [← e2] at hstep
        by_cases hle : ra ≤ rb
        · by_cases hn0 : nn = 0
          · have hv : vb = true := by rw [hvb, hrk]; simp [hle, hn0]
            rw [hv] at hbt1 hwr hstep
            simp [h0, h7, h8, h40, hal, hal', hrl, fra, frb, fqa, fqb, fnn, hle, hn0, htb, hrow, hrow', recheck, hbt1, AV.oneCell, fillA, splice, zerosEv, appendEv, srcEv, hwr]
            exact ⟨⟨h6, h35, h36, h39, b + 1, by rw [hw2]; simp, by omega, _, _, hstep⟩, by rw [hw2]; omega⟩
          · have hv : vb = false := by rw [hvb, hrk]; simp [hn0]
            rw [hv] at hbt1 hwr hstep
            simp [h0, h7, h8, h40, hal, hal', hrl, fra, frb, fqa, fqb, fnn, hle, hn0, htb, hrow, hrow', recheck, hbt1, AV.oneCell, fillA, splice, zerosEv, appendEv, srcEv, hwr]
            exact ⟨⟨h6, h35, h36, h39, b + 1, by rw [hw2]; simp, by omega, _, _, hstep⟩, by rw [hw2]; omega⟩
        · have hv : vb = false := by rw [hvb, hrk]; simp [hle]
          rw [hv] at hbt1 hwr hstep
          simp [h0, h7, h8, h40, hal, hal', hrl, fra, frb, hle, htb, hrow, hrow', recheck, hbt1, AV.oneCell, fillA, splice, zerosEv, appendEv, srcEv, hwr]
          exact ⟨⟨h6, h35, h36, h39, b + 1, by rw [hw2]; simp, by omega, _, _, hstep⟩, by rw [hw2]; omega⟩
      · -- one more
        rw [upto_here] at hu hrow hfa
        have hfl := (List.getElem?_eq_some_iff.1 hfa).1
        have hrow' : ∀ h : a < rows.length, rows[a]'h = .slice (.mu (f a)) 0 b (.opn 0) := fun h => Option.some.inj ((List.getElem?_eq_getElem h).symm.trans hrow)
        have hfa1 : (H2 ++ [AO.cells [AV.bool vb] 4])[f a]? = some (.row (rowV rn a b) 4 1) := by rw [List.getElem?_append_left hfl]; exact hfa
        have hrv := rowV_len rn a b
        have htake : (rowV rn a b).take b = rowV rn a b := List.take_of_length_le (Nat.le_of_eq hrv)
        have hb2 : ¬ b + 1 ≤ b := by omega
        have hb3 : b ≤ 140737488355327 := by omega
        have hbt2 : (List.set (H2 ++ [AO.cells [AV.bool vb] 4]) (f a) AO.dead ++ [AO.row (rowV rn a b ++ [AV.bool vb]) 4 1])[H.length]? = some (.cells rows 59) := by
          rw [List.getElem?_append_left (by simp; omega), List.getElem?_set, if_neg hfa3, List.getElem?_append_left ht0]; exact htb
        have hwr := writeN_rows hbt2 (i := a) (by omega) (.slice (.mu (H2.length + 1)) 0 (b + 1) (.opn 0)) rfl
        have hstep := hH.step (H' := (List.set (H2 ++ [AO.cells [AV.bool vb] 4]) (f a) AO.dead ++ [AO.row (rowV rn a b ++ [AV.bool vb]) 4 1]).set H.length (.cells (rows.set a (.slice (.mu (H2.length + 1)) 0 (b + 1) (.opn 0))) 59)) hal hbl (k := H2.length + 1) (by omega) (by omega)
          (by rw [List.getElem?_set, if_neg (by omega)]; rw [List.getElem?_append_right (by simp)]; rw [rowV_succ, hvb]; simp) (by rw [List.getElem?_set, if_pos rfl, if_pos (by simp; omega)])
          (fun x hx hxa hu' => by
            rcases hH.row x hx with ⟨hx0, _⟩ | ⟨_, _, hx3, hx4, hx5⟩
            · omega
            · have hxl := (List.getElem?_eq_some_iff.1 hx3).1
              have hne := hH.inj x a hx hal hu' (by rw [upto_here]; exact hu) hxa
              exact ⟨by rw [List.getElem?_set, if_neg (Ne.symm hx5), List.getElem?_append_left (by simp; omega), List.getElem?_set, if_neg (Ne.symm hne), List.getElem?_append_left hxl], by omega⟩)
          ((((hke.trans (Keeps.app _ _)).set hfa2 _).trans (Keeps.app _ _)).set (Nat.le_refl _) _)
        by_cases hle : ra ≤ rb
        · by_cases hn0 : nn = 0
          · have hv : vb = true := by rw [hvb, hrk]; simp [hle, hn0]
            rw [hv] at hbt1 hwr hstep hfa1
            simp [h0, h7, h8, h40, hal, hal', hrl, fra, frb, fqa, fqb, fnn, hle, hn0, htb, hrow, hrow', recheck, hbt1, AV.oneCell, fillA, splice, zerosEv, appendEv, srcEv, hfa1, hrv, htake, hb2, hb3, hwr]
            exact ⟨⟨h6, h35, h36, h39, b + 1, by rw [hw2]; simp, by omega, _, _, hstep⟩, by rw [hw2]; omega⟩
          · have hv : vb = false := by rw [hvb, hrk]; simp [hn0]
            rw [hv] at hbt1 hwr hstep hfa1
            simp [h0, h7, h8, h40, hal, hal', hrl, fra, frb, fqa, fqb, fnn, hle, hn0, htb, hrow, hrow', recheck, hbt1, AV.oneCell, fillA, splice, zerosEv, appendEv, srcEv, hfa1, hrv, htake, hb2, hb3, hwr]
            exact ⟨⟨h6, h35, h36, h39, b + 1, by rw [hw2]; simp, by omega, _, _, hstep⟩, by rw [hw2]; omega⟩
        · have hv : vb = false := by rw [hvb, hrk]; simp [hle]
          rw [hv] at hbt1 hwr hstep hfa1
          simp [h0, h7, h8, h40, hal, hal', hrl, fra, frb, hle, htb, hrow, hrow', recheck, hbt1, AV.oneCell, fillA, splice, zerosEv, appendEv, srcEv, hfa1, hrv, htake, hb2, hb3, hwr]
          exact ⟨⟨h6, h35, h36, h39, b + 1, by rw [hw2]; simp, by omega, _, _, hstep⟩, by rw [hw2]; omega⟩
    · obtain rfl : b = n := by omega
      have hH' := hH.next
      simp [h0, h6, h7, h35, h36, h39, h40, hw1]
      exact ⟨⟨a + 1, by simp, by omega, rows, f, hH'⟩, by omega⟩
  · obtain rfl : a = n := by omega
    have htab := hH.tab (R := R) hn0
    simp [h0, h6, h7, h35, h36]
    refine (new_ok hT H1 _ _ htab (by rw [rankT_len]; omega)).mono ?_
    rintro v H2 ⟨hk, hv⟩
    have hke := hH.keeps.trans hk
    rcases hv with ⟨hg, l, p, q, rfl, hin, h1, h2, h3⟩ | ⟨hng, rfl⟩
    · simp
      exact ⟨hke, .inl ⟨hg, l, p, q, rfl, hin, by have := hH.keeps.1; omega, by have := hH.keeps.1; omega, by have := hH.keeps.1; omega⟩⟩
    · simp
      exact ⟨hke, .inr ⟨hng, _, errT_ne _, rfl⟩⟩
theorem rank_ok (hT : HasTab R) (H : AH) (r s : Int) : ACalls Tryd.prog R 16 [.int .i64 r, .int .i64 s] H fun v H' => RankPost r s H v H' := by
  by_cases h1 : r < 1
  · refine ACalls.of_wpE Fns.ok16 (by simp [Fns.a16]) ?_
    simp [Fns.a16, h1]
    exact ⟨Keeps.refl _, .inr ⟨fun h => by have := h.1; omega, rfl⟩⟩
  by_cases h2 : 64 < r
  · refine ACalls.of_wpE Fns.ok16 (by simp [Fns.a16]) ?_
    simp [Fns.a16, h1, h2]
    exact ⟨Keeps.refl _, .inr ⟨fun h => by have := h.2.1; omega, rfl⟩⟩
  by_cases h3 : s < 0
  · refine ACalls.of_wpE Fns.ok16 (by simp [Fns.a16]) ?_
    simp [Fns.a16, h1, h2, h3]
    exact ⟨Keeps.refl _, .inr ⟨fun h => by have := h.2.2.1; omega, rfl⟩⟩
  by_cases h4 : 6 < s
  · refine ACalls.of_wpE Fns.ok16 (by simp [Fns.a16]) ?_
    simp [Fns.a16, h1, h2, h3, h4]
    exact ⟨Keeps.refl _, .inr ⟨fun h => by have := h.2.2.2.1; omega, rfl⟩⟩
  obtain ⟨rn, rfl⟩ : ∃ n : Nat, r = n := ⟨r.toNat, by omega⟩
  obtain ⟨sn, rfl⟩ : ∃ n : Nat, s = n := ⟨s.toNat, by omega⟩
  have hshl := binEv_shlI rn sn (by omega) (by omega)
  have hn0 : 0 < rn * 2 ^ sn := Nat.mul_pos (by omega) (Nat.two_pow_pos _)
  by_cases h5 : 64 < rn * 2 ^ sn
  · have hno : ¬ RankMay rn sn := fun h => by have := h.2.2.2.2; simp only [Int.toNat_natCast] at this; omega
    unfold RankPost
    generalize rn * 2 ^ sn = n at *
    have h5' : (64 : Int) < (n : Int) := by omega
    have g6 : ¬ 64 < rn := by omega
    have g7 : ¬ 6 < sn := by omega
    have g8 : ¬ rn = 0 := by omega
    refine ACalls.of_wpE Fns.ok16 (by simp [Fns.a16]) ?_
    simp [Fns.a16, h1, h2, h3, h4, g6, g7, g8, hshl, h5, h5']
    exact ⟨Keeps.refl _, .inr hno⟩
  have hmay : RankMay rn sn := ⟨by omega, by omega, by omega, by omega, by simp only [Int.toNat_natCast]; omega⟩
  refine (rank_yes hT H rn sn _ (by omega) (by omega) (by omega) hn0 (by omega) hshl).mono fun v H' h => ⟨h.1, .inl ⟨hmay, ?_⟩⟩
  simp only [Int.toNat_natCast]
  exact h.2
end Go.Proofs.YtjncbipaikmogaaDoor.Latt
