/- The names that a label may see; buffers without texts. -/
import Derived.Test.YtjncbipaikmogaaDoorBfDrop
namespace Go.Proofs.YtjncbipaikmogaaDoor.Bf
open Go Go.RowKit Am Latt
set_option maxRecDepth 100000
set_option linter.unusedSimpArgs false
set_option linter.unusedVariables false
attribute [-simp] Am.binEv Am.intBin Am.read1
attribute [local simp] binEv_lss binEv_leq binEv_gtr binEv_geq binEv_eql binEv_neq binEv_add binEv_sub binEv_mul binEv_shr58 read1_ro read1_mu
variable {R : Ro}
abbrev NM := Int × Int
def nmsV : List NM → List AV
  | [] => []
  | p :: l => .int .i64 p.1 :: .int .i64 p.2 :: nmsV l
theorem nmsV_app : ∀ (l m : List NM), nmsV (l ++ m) = nmsV l ++ nmsV m
  | [], m => rfl
  | p :: l, m => by simp [nmsV, nmsV_app l m]
theorem nmsV_get : ∀ (l : List NM) (i : Nat) (p : NM), l[i]? = some p → (nmsV l)[i * 2]? = some (.int .i64 p.1) ∧ (nmsV l)[i * 2 + 1]? = some (.int .i64 p.2)
  | [], i, p, h => by simp at h
  | q :: l, 0, p, h => by simp at h; subst h; simp [nmsV]
  | q :: l, i + 1, p, h => by
    have := nmsV_get l i p (by simpa using h)
    have e1 : (i + 1) * 2 = i * 2 + 1 + 1 := by omega
    have e2 : (i + 1) * 2 + 1 = i * 2 + 1 + 1 + 1 := by omega
    rw [e2, e1]
    exact this
/-- What is seen of one label. -/
def ofL (S : List LB) (a : Nat) : List NM := match S[a]? with
  | some x => x.l.map fun t => ((a : Int), t.1)
  | none => []
def seenS (S : List LB) (L : List Nat) : List NM := L.flatMap (ofL S)
theorem ofL_len {S : List LB} (hsm : ∀ x ∈ S, x.l.length ≤ 8) (a : Nat) : (ofL S a).length ≤ 8 := by
  unfold ofL
  split
  · rename_i x hx; rw [List.length_map]; exact hsm x (List.mem_of_getElem? hx)
  · simp
theorem seen_len {S : List LB} (hsm : ∀ x ∈ S, x.l.length ≤ 8) : ∀ L : List Nat, (seenS S L).length ≤ 8 * L.length
  | [] => by simp [seenS]
  | a :: L => by
    have h1 := ofL_len hsm a
    have h2 := seen_len hsm L
    unfold seenS at h2 ⊢
    simp only [List.flatMap_cons, List.length_append, List.length_cons]
    omega
theorem Own.keeps {H H' : AH} {b l r : Nat} {C : List AV} {S : List LB} {cs : List AV} (h : At H b l r C S cs) (hk : Keeps H H') : At H' b l r C S cs := h.frame fun i hi => hk.2 i (h.lt hi)
theorem downs_lt (up : List Nat) (a : Int) {x k : Nat} (h : x ∈ downs up a k) : x < k ∧ bel up x a = true := by
  unfold downs at h
  simp only [List.mem_filter, List.mem_range] at h
  exact h
set_option maxHeartbeats 4000000 in
theorem seen_ok {H : AH} {b l r : Nat} {C : List AV} {S : List LB} {cs : List AV} {up dn : List Nat} (h : At H b l r C S cs) (hL : LatAt R H l up dn) (hSl : S.length = up.length) (a : Int) (hsm : ∀ x ∈ S, x.l.length ≤ 8) :
    ACalls Tryd.prog R 19 [.ptr (.mu b) 0, .int .i64 a] H fun v H' => RowOwn H H' v (seenS S (downs up a up.length)).length 2 53 (nmsV (seenS S (downs up a up.length))) := by
  have hle := hL.le
  refine ACalls.of_wpE Fns.ok19 (by simp [Fns.a19]) ?_
  simp [Fns.a19, eqEv, h.box]
  refine (downset_ok hL a).mono ?_
  rintro v H1 hD
  have hdl := downs_le up a up.length
  have hdm : ∀ x ∈ downs up a up.length, x < S.length := fun x hx => by rw [hSl]; exact (downs_lt up a hx).1
  generalize downs up a up.length = D at hD hdl hdm
  obtain ⟨lv, hlv⟩ : ∃ w, w = v := ⟨_, rfl⟩
  have hvl : (AOp.lenL (.t 17)).eval Tryd.prog R (fun _ => v) H1 = some (.int .i64 D.length, H1) := by
    rcases hD.row with ⟨rfl, h0, _⟩ | ⟨j, rfl, _⟩
    · simp [h0]
    · simp
  simp only [AOp.eval, X.ev] at hvl
  simp [hvl]
  refine AWp.loop (fun e H2 => e 0 = .ptr (.mu b) 0 ∧ e 17 = v ∧ e 18 = .int .i64 D.length ∧ ∃ i : Nat, e 19 = .int .i64 i ∧ i ≤ D.length ∧ RowOwn H1 H2 (e 5) (seenS S (D.take i)).length 2 53 (nmsV (seenS S (D.take i))))
    (fun e _ => match e 19 with | .int _ i => ((D.length : Int) - i).toNat | _ => 0) ⟨by simp, by simp, by simp, 0, by simp, by omega, by simpa [seenS, nmsV] using RowOwn.nil H1 2 53⟩ ?_
  rintro e H2 ⟨h0, h17, h18, i, h19, hi, hrow⟩
  have hk2 := hrow.keeps
  refine wpE_sound _ ?_
  have hA1 := Own.keeps h hD.keeps
  by_cases hlt : i < D.length
  · have hlt' : (i : Int) < (D.length : Int) := by omega
    have hw1 := i64_small ((i : Int) + 1) (by omega) (by omega)
    have hA2 := Own.keeps h (hD.keeps.trans hk2)
    have hd := hdm _ (List.getElem_mem hlt)
    obtain ⟨cv, hcv, c0, c1, hcr⟩ := hA1.get hd
    have hdi : D[i]? = some D[i] := List.getElem?_eq_getElem hlt
    obtain ⟨jd, rfl, hjd, hjdl⟩ : ∃ j, v = .slice (.mu j) 0 D.length (.opn 0) ∧ H2[j]? = some (.row (D.map fun (b : Nat) => .int .i64 b) 3 1) ∧ j < H1.length := by
      rcases hD.row with ⟨_, e0, _⟩ | ⟨j, e0, hj, _⟩
      · omega
      · have := (List.getElem?_eq_some_iff.1 hj).1
        exact ⟨j, e0, by rw [hk2.2 j this]; exact hj, this⟩
    have hh8 := hsm _ (List.getElem_mem hd)
    have hdS : (D[i] : Int) < (S.length : Int) := by omega
    have hrd : (D.map fun (b : Nat) => AV.int .i64 b)[i]? = some (.int .i64 (D[i] : Nat)) := by simp [hdi]
    have hsl := seen_len hsm (D.take i)
    have htl : (D.take i).length ≤ 64 := by rw [List.length_take]; omega
    have hlc : (cv = .nilslice ∧ S[D[i]].l.length = 0) ∨ ∃ j, cv = .slice (.mu j) 0 S[D[i]].l.length (.opn 0) ∧ H1[j]? = some (.row (txt S[D[i]].l) 90 2) := by
      rcases hcr with ⟨e1, e2, _⟩ | ⟨j, e1, e2, _⟩
      · exact .inl ⟨e1, e2⟩
      · exact .inr ⟨j, e1, e2⟩
    have hnext : seenS S (D.take (i + 1)) = seenS S (D.take i) ++ S[D[i]].l.map fun t => ((D[i] : Int), t.1) := by
      unfold seenS
      rw [List.take_add_one, hdi, Option.toList_some, List.flatMap_append]
      congr 1
      simp [ofL, hd]
    rcases hlc with ⟨rfl, hl0⟩ | ⟨j, rfl, hj⟩
    · simp [h0, h17, h18, h19, hlt, hlt', hjd, hrd, hA2.box, hA2.row, hd, hdS, c0]
      refine AWp.loop (fun e' H' => H' = H2 ∧ e' 31 = .int .i64 0 ∧ e' 32 = .int .i64 0 ∧ e' 0 = .ptr (.mu b) 0 ∧ e' 17 = .slice (.mu jd) 0 D.length (.opn 0) ∧ e' 18 = .int .i64 D.length ∧ e' 19 = .int .i64 i ∧ e' 5 = e 5) (fun _ _ => 0) ⟨rfl, by simp, by simp, by simp [h0], by simp [h17], by simp [h18], by simp [h19], by simp⟩ ?_
      rintro e' H' ⟨rfl, g31, g32, g0, g17, g18, g19, g5⟩
      refine wpE_sound _ ?_
      simp [g0, g17, g18, g19, g31, g32, hw1]
      have hl00 : S[D[i]].l = [] := List.eq_nil_of_length_eq_zero hl0
      exact ⟨⟨i + 1, by simp, by omega, by rw [hnext, hl00, g5]; simpa using hrow⟩, by omega⟩
    · have hjl := (List.getElem?_eq_some_iff.1 hj).1
      simp [h0, h17, h18, h19, hlt, hlt', hjd, hrd, hA2.box, hA2.row, hd, hdS, c0]
      refine AWp.loop (fun e' H' => e' 30 = .slice (.mu j) 0 S[D[i]].l.length (.opn 0) ∧ e' 31 = .int .i64 S[D[i]].l.length ∧ e' 7 = .int .i64 (D[i] : Nat) ∧ e' 0 = .ptr (.mu b) 0 ∧ e' 17 = .slice (.mu jd) 0 D.length (.opn 0) ∧ e' 18 = .int .i64 D.length ∧ e' 19 = .int .i64 i ∧
        ∃ m : Nat, e' 32 = .int .i64 m ∧ m ≤ S[D[i]].l.length ∧ RowOwn H1 H' (e' 5) ((seenS S (D.take i)).length + m) 2 53 (nmsV (seenS S (D.take i) ++ (S[D[i]].l.take m).map fun t => ((D[i] : Int), t.1))))
        (fun e _ => match e 32 with | .int _ i' => ((S[D[i]].l.length : Int) - i').toNat | _ => 0) ⟨by simp, by simp, by simp, by simp [h0], by simp [h17], by simp [h18], by simp [h19], 0, by simp, by omega, by simpa using hrow⟩ ?_
      rintro e' H' ⟨g30, g31, g7, g0, g17, g18, g19, m, g32, hm, hrow'⟩
      refine wpE_sound _ ?_
      by_cases hml : m < S[D[i]].l.length
      · have hml' : (m : Int) < (S[D[i]].l.length : Int) := by omega
        have hw2 := i64_small ((m : Int) + 1) (by omega) (by omega)
        have hj' : H'[j]? = some (.row (txt S[D[i]].l) 90 2) := by rw [hrow'.keeps.2 j hjl]; exact hj
        have hp : S[D[i]].l[m]? = some S[D[i]].l[m] := List.getElem?_eq_getElem hml
        obtain ⟨t0, t1⟩ := txt_get _ m _ hp
        have hrd2 : ((txt S[D[i]].l).drop (m * 2)).take 2 = [.int .i64 S[D[i]].l[m].1, .str S[D[i]].l[m].2] := by
          have e1 : m * 2 < (txt S[D[i]].l).length := by rw [txt_len]; omega
          have e2 : m * 2 + 1 < (txt S[D[i]].l).length := by rw [txt_len]; omega
          rw [List.drop_eq_getElem_cons e1, List.drop_eq_getElem_cons e2]
          rw [List.getElem?_eq_getElem e1] at t0
          rw [List.getElem?_eq_getElem e2] at t1
          simp only [Option.some.injEq] at t0 t1
          simp [t0, t1]
        have hfit : m * 2 + 2 ≤ (txt S[D[i]].l).length := by rw [txt_len]; omega
        have hrow2 := hrow'.more (Keeps.app H' [AO.cells [.int .i64 S[D[i]].l[m].1, .str S[D[i]].l[m].2] 90])
        obtain ⟨G, hG, hrow3, hGl, hGk⟩ := hrow2.push (R := R) (by' := 16) (t' := 53) (new := [.int .i64 (D[i] : Nat), .int .i64 S[D[i]].l[m].1]) (by omega) (by omega) (by omega) (by simp [AV.oneCell]) rfl (.known 1)
        have hset : (H' ++ [AO.cells [AV.int IntKind.i64 0, AV.str []] 90]).set H'.length (.cells [.int .i64 S[D[i]].l[m].1, .str S[D[i]].l[m].2] 90) = H' ++ [AO.cells [.int .i64 S[D[i]].l[m].1, .str S[D[i]].l[m].2] 90] := by simp
        simp [List.append_assoc] at hG
        simp [g0, g7, g17, g18, g19, g30, g31, g32, hml, hml', hj', hrd2, hfit, hw2, writeN, AO.content, AO.withContent, splice, fillA, hG, hset, AV.oneCell, zerosEv]
        refine ⟨⟨m + 1, by simp, by omega, ?_⟩, by omega⟩
        have e3 : nmsV (seenS S (D.take i) ++ (S[D[i]].l.take m).map fun t => ((D[i] : Int), t.1)) ++ [.int .i64 (D[i] : Nat), .int .i64 S[D[i]].l[m].1] = nmsV (seenS S (D.take i) ++ (S[D[i]].l.take (m + 1)).map fun t => ((D[i] : Int), t.1)) := by
          rw [List.take_add_one, hp, Option.toList_some, List.map_append, ← List.append_assoc, nmsV_app (_ ++ _)]
          rfl
        rw [e3] at hrow3
        simpa [Nat.add_assoc] using hrow3
      · obtain rfl : m = S[D[i]].l.length := by omega
        simp [g0, g7, g17, g18, g19, g30, g31, g32, hw1]
        refine ⟨⟨i + 1, by simp, by omega, ?_⟩, by omega⟩
        rw [hnext]
        simpa using hrow'
  · obtain rfl : i = D.length := by omega
    simp [h18, h19]
    rw [List.take_length] at hrow
    exact ⟨hrow.row, fun i o ln cp e => Nat.le_trans hD.keeps.1 (hrow.low i o ln cp e), hD.keeps.trans hrow.keeps⟩
end Go.Proofs.YtjncbipaikmogaaDoor.Bf
