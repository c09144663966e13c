/- What takes out; what is told of one. -/
import Derived.Test.YtjncbipaikmogaaDoorBfPut
namespace Go.Proofs.YtjncbipaikmogaaDoor.Bf
open Go Go.RowKit Am Latt
set_option maxRecDepth 100000
set_option linter.unusedSimpArgs false
set_option linter.unusedVariables false
attribute [-simp] Am.binEv Am.intBin Am.read1
attribute [local simp] binEv_lss binEv_leq binEv_gtr binEv_geq binEv_eql binEv_neq binEv_add binEv_sub binEv_mul binEv_shr58 read1_ro read1_mu
variable {R : Ro}
def lbAt (S : List LB) (a : Int) : Option LB := if isL S.length a then S[a.toNat]? else none
theorem lbAt_some {S : List LB} {a : Int} {x : LB} (h : lbAt S a = some x) : ∃ an : Nat, a = an ∧ ∃ h : an < S.length, S[an] = x := by
  unfold lbAt at h
  split at h
  · rename_i ha
    simp only [isL, Bool.and_eq_true, decide_eq_true_eq] at ha
    refine ⟨a.toNat, by omega, by omega, ?_⟩
    have := List.getElem?_eq_some_iff.1 h
    exact this.2
  · cases h
theorem lbAt_none {S : List LB} {a : Int} (h : lbAt S a = none) : isL S.length a = false := by
  unfold lbAt at h
  split at h
  · rename_i ha
    simp only [isL, Bool.and_eq_true, decide_eq_true_eq] at ha
    rw [List.getElem?_eq_none_iff] at h
    omega
  · rename_i ha; simpa using ha
theorem lbAt_nat {S : List LB} {an : Nat} (h : an < S.length) : lbAt S (an : Int) = some S[an] := by
  have : isL S.length (an : Int) = true := by simp [isL]; omega
  unfold lbAt
  rw [if_pos this]; simp [h]
theorem isL_nat {n an : Nat} (h : an < n) : isL n (an : Int) = true := by simp [isL]; omega
def dropS (S : List LB) (a n : Int) : Int × List LB := match lbAt S a with
  | none => (1, S)
  | some x => match fi x.l n with
    | none => (4, S)
    | some k => (0, S.set a.toNat ⟨x.l.eraseIdx k, x.given⟩)
def getS (S : List LB) (a n : Int) : Option (List UInt8) := match lbAt S a with
  | none => none
  | some x => match fi x.l n with
    | none => none
    | some k => (x.l[k]?).map (·.2)
def newS (S : List LB) (a : Int) : Int × Bool := match lbAt S a with
  | none => (0, false)
  | some x => match x.l with
    | [] => (0, false)
    | p :: _ => (p.1, true)
def roomS (S : List LB) (a : Int) : Int := match lbAt S a with
  | none => 0
  | some x => 8 - x.l.length
theorem room_ok {H : AH} {b l r : Nat} {C : List AV} {S : List LB} {cs : List AV} (h : At H b l r C S cs) (a : Int) (hsm : ∀ x ∈ S, x.l.length ≤ 8) :
    ACalls Tryd.prog R 20 [.ptr (.mu b) 0, .int .i64 a] H fun v H' => v = .int .i64 (roomS S a) ∧ H' = H := by
  refine ACalls.of_wpE Fns.ok20 (by simp [Fns.a20]) ?_
  simp [Fns.a20]
  refine (at_ok h a).mono ?_
  rintro v H ⟨rfl, rfl⟩
  cases ha : lbAt S a with
  | none =>
    have := lbAt_none ha
    simp [atV, this, roomS, ha]
  | some x =>
    obtain ⟨an, rfl, han, rfl⟩ := lbAt_some ha
    obtain ⟨cv, hcv, c0, c1, hrow⟩ := h.get han
    have h8 := hsm _ (List.getElem_mem han)
    have hw := i64_small (8 - (S[an].l.length : Int)) (by omega) (by omega)
    rcases hrow with ⟨rfl, h0, _⟩ | ⟨j, rfl, hj, _⟩
    · rw [h0] at hw
      simp [atV, isL_nat han, eqEv, h.row, c0, roomS, ha, h0, hw]
      exact hw
    · simp [atV, isL_nat han, eqEv, h.row, c0, roomS, ha, hw]
theorem newest_ok {H : AH} {b l r : Nat} {C : List AV} {S : List LB} {cs : List AV} (h : At H b l r C S cs) (a : Int) :
    ACalls Tryd.prog R 22 [.ptr (.mu b) 0, .int .i64 a] H fun v H' => v = .tuple [.int .i64 (newS S a).1, .bool (newS S a).2] ∧ H' = H := by
  refine ACalls.of_wpE Fns.ok22 (by simp [Fns.a22]) ?_
  simp [Fns.a22]
  refine (at_ok h a).mono ?_
  rintro v H ⟨rfl, rfl⟩
  cases ha : lbAt S a with
  | none =>
    have := lbAt_none ha
    simp [atV, this, newS, ha]
  | some x =>
    obtain ⟨an, rfl, han, rfl⟩ := lbAt_some ha
    obtain ⟨cv, hcv, c0, c1, hrow⟩ := h.get han
    cases hl : S[an].l with
    | nil =>
      rw [hl] at hrow
      rcases hrow with ⟨rfl, h0, _⟩ | ⟨j, rfl, hj, _⟩
      · simp [atV, isL_nat han, eqEv, h.row, c0, newS, ha, hl]
      · simp [atV, isL_nat han, eqEv, h.row, c0, newS, ha, hl]
    | cons p t =>
      rw [hl] at hrow
      have hz : ¬ ((t.length : Int) + 1 = 0) := by omega
      have hz2 : (0 : Int) < (t.length : Int) + 1 := by omega
      rcases hrow with ⟨rfl, h0, _⟩ | ⟨j, rfl, hj, _⟩
      · simp at h0
      · simp [atV, isL_nat han, eqEv, h.row, c0, newS, ha, hl, hz, hz2, hj, txt]
theorem get_ok {H : AH} {b l r : Nat} {C : List AV} {S : List LB} {cs : List AV} (h : At H b l r C S cs) (a n : Int) (hsm : ∀ x ∈ S, x.l.length ≤ 8) :
    ACalls Tryd.prog R 18 [.ptr (.mu b) 0, .int .i64 a, .int .i64 n] H fun v H' => v = .tuple [.str ((getS S a n).getD []), .bool (getS S a n).isSome] ∧ H' = H := by
  refine ACalls.of_wpE Fns.ok18 (by simp [Fns.a18]) ?_
  simp [Fns.a18]
  refine (at_ok h a).mono ?_
  rintro v H ⟨rfl, rfl⟩
  cases ha : lbAt S a with
  | none =>
    have := lbAt_none ha
    simp [atV, this]
    refine (find_nil _ _).mono ?_
    rintro v H ⟨rfl, rfl⟩
    simp [getS, ha]
  | some x =>
    obtain ⟨an, rfl, han, rfl⟩ := lbAt_some ha
    obtain ⟨cv, hcv, c0, c1, hrow⟩ := h.get han
    have h8 := hsm _ (List.getElem_mem han)
    simp [atV, isL_nat han]
    refine (find_ok h han (by omega) n).mono ?_
    rintro v H ⟨rfl, rfl⟩
    cases hf : fi S[an].l n with
    | none => simp [fv, getS, ha, hf]
    | some k =>
      obtain ⟨p, hp, _⟩ := fi_get hf
      obtain ⟨t0, t1⟩ := txt_get _ _ _ hp
      have hkl := (List.getElem?_eq_some_iff.1 hp).1
      have hkl' : (k : Int) < (S[an].l.length : Int) := by omega
      have hk0 : ¬ (k : Int) < 0 := by omega
      rcases hrow with ⟨rfl, h0, _⟩ | ⟨j, rfl, hj, _⟩
      · omega
      · simp [fv, h.row, c0, hkl, hkl', hk0, hj, t1, getS, ha, hf]
        rw [(List.getElem?_eq_some_iff.1 hp).2]
set_option maxHeartbeats 2000000 in
theorem drop_ok {H : AH} {b l r : Nat} {C : List AV} {S : List LB} {cs : List AV} (h : At H b l r C S cs) (a n : Int) (hsm : ∀ x ∈ S, x.l.length ≤ 8) :
    ACalls Tryd.prog R 13 [.ptr (.mu b) 0, .int .i64 a, .int .i64 n] H fun v H' => ∃ C' cs', v = .int .i64 (dropS S a n).1 ∧ At H' b l r C' (dropS S a n).2 cs' ∧ Moved H H' b r cs cs' := by
  refine ACalls.of_wpE Fns.ok13 (by simp [Fns.a13]) ?_
  simp [Fns.a13]
  refine (at_ok h a).mono ?_
  rintro v H ⟨rfl, rfl⟩
  cases ha : lbAt S a with
  | none =>
    have hd : dropS S a n = (1, S) := by simp [dropS, ha]
    rw [hd]
    have := lbAt_none ha
    simp [atV, this]
    refine (find_nil _ _).mono ?_
    rintro v H ⟨rfl, rfl⟩
    simp [eqEv, h.box]
    exact ⟨_, _, h, Moved.refl ..⟩
  | some x =>
    obtain ⟨an, rfl, han, rfl⟩ := lbAt_some ha
    obtain ⟨cv, hcv, c0, c1, hrow⟩ := h.get han
    have h8 := hsm _ (List.getElem_mem han)
    simp [atV, isL_nat han]
    refine (find_ok h han (by omega) n).mono ?_
    rintro v H ⟨rfl, rfl⟩
    cases hf : fi S[an].l n with
    | none =>
      have hd : dropS S (an : Int) n = (4, S) := by simp [dropS, ha, hf]
      rw [hd]
      simp [eqEv, h.box, h.row, fv, c0]
      exact ⟨_, _, h, Moved.refl ..⟩
    | some k =>
      obtain ⟨p, hp, _⟩ := fi_get hf
      have hkl := (List.getElem?_eq_some_iff.1 hp).1
      have hk0 : ¬ (k : Int) < 0 := by omega
      have hd : dropS S (an : Int) n = (0, S.set an ⟨S[an].l.eraseIdx k, S[an].given⟩) := by simp [dropS, ha, hf]
      rw [hd]
      have hw := i64_small ((k : Int) + 1) (by omega) (by omega)
      have hrl := h.lt (.inr (.inl rfl))
      rcases hrow with ⟨rfl, h0, _⟩ | ⟨j, rfl, hj, hC⟩
      · omega
      · have hjl := (List.getElem?_eq_some_iff.1 hj).1
        have hjr : j ≠ r := fun e => by rw [e, h.row] at hj; cases hj
        have h2an : an * 2 < C.length := by rw [h.cl]; omega
        have hle1 : an * 2 + 1 ≤ C.length := by omega
        have hlen : (S[an].l.eraseIdx k).length = S[an].l.length - 1 := List.length_eraseIdx_of_lt hkl
        have hdel := del_row (P := Tryd.prog) (R := R) (i := k) Fns.mixed Fns.del_ok rfl hj hC hkl (by decide) (by decide) (by omega) rfl (txt_one _)
        have htx : (txt S[an].l).take (k * 2) ++ (txt S[an].l).drop ((k + 1) * 2) = txt (S[an].l.eraseIdx k) := by
          rw [txt_take, txt_drop, txt_app, List.eraseIdx_eq_take_drop_succ]
        rw [htx] at hdel
        have hGr : (H.set j .dead ++ [AO.row (txt (S[an].l.eraseIdx k)) 90 2])[r]? = some (.cells C 87) := by
          rw [List.getElem?_append_left (by simpa using hrl), List.getElem?_set_ne hjr]; exact h.row
        have hupd := h.upd han (Hf := (H.set j .dead ++ [AO.row (txt (S[an].l.eraseIdx k)) 90 2]).set r (.cells (C.set (an * 2) (.slice (.mu H.length) 0 (S[an].l.length - 1) (.opn 0))) 87)) (C2 := C.set (an * 2) (.slice (.mu H.length) 0 (S[an].l.length - 1) (.opn 0))) (y := ⟨S[an].l.eraseIdx k, S[an].given⟩) (q := H.length) (by simp) (by rw [List.getElem?_set_self (by simp; omega)]) (by simp)
          (by rw [List.getElem?_set_self h2an, hlen]) (by rw [List.getElem?_set_ne (by omega)]; exact c1) (fun q k1 k2 => by rw [List.getElem?_set_ne (by omega)])
          (fun i hi hir hno => by
            have hij : j ≠ i := fun e => by subst e; exact hno _ _ _ hcv
            rw [List.getElem?_set_ne (Ne.symm hir), List.getElem?_append_left (by simpa using hi), List.getElem?_set_ne hij]) (Nat.le_refl _)
          (by rw [List.getElem?_set_ne (by omega)]; simp)
        have hsp1 : ∀ v, splice C (an * 2) [v] = C.set (an * 2) v := fun v => splice_one h2an
        simp [eqEv, h.box, h.row, fv, c0, hk0, hw]
        refine hdel.mono ?_
        rintro v G ⟨rfl, rfl⟩
        simp [hGr, writeN, AO.content, AO.withContent, hsp1, hle1]
        exact ⟨_, _, hupd.1, hupd.2⟩
end Go.Proofs.YtjncbipaikmogaaDoor.Bf
