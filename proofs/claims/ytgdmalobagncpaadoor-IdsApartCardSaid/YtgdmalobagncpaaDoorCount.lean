/- Each label's numbers are given from 0 on: what the code computes. -/
import Derived.Test.YtgdmalobagncpaaDoorNobody
import Derived.Test.YtgdmalobagncpaaDoorLatGood
import Derived.Test.YtgdmalobagncpaaDoorLatLen
import Derived.Test.YtgdmalobagncpaaDoorAmApp
import Derived.Test.YtgdmalobagncpaaDoorAmFlat
import Derived.Test.YtgdmalobagncpaaDoorAmSched
namespace Go.Proofs.YtgdmalobagncpaaDoor.Cnt
open Go Go.RowKit Am Latt
set_option maxRecDepth 100000
set_option linter.unusedSimpArgs false
set_option linter.unusedVariables false
attribute [-simp] Am.binEv Am.intBin Am.read1
attribute [local simp] binEv_lss binEv_leq binEv_gtr binEv_geq binEv_eql binEv_neq binEv_add binEv_sub binEv_mul binEv_shr58 read1_ro read1_mu
variable {R : Ro}
def i64v (z : Int) : AV := .int .i64 z
def cellsF (n : Nat) (f : Nat → Int) : List AV := (List.range n).map fun i => i64v (f i)
theorem cellsF_len (n : Nat) (f : Nat → Int) : (cellsF n f).length = n := by simp [cellsF]
theorem cellsF_get {n : Nat} (f : Nat → Int) {i : Nat} (h : i < n) : (cellsF n f)[i]? = some (.int .i64 (f i)) := by simp [cellsF, i64v, h]
def upd (f : Nat → Int) (i : Nat) : Nat → Int := fun j => if j = i then f i + 1 else f j
theorem cellsF_set {n : Nat} (f : Nat → Int) {i : Nat} (h : i < n) : (cellsF n f).set i (.int .i64 (f i + 1)) = cellsF n (upd f i) := by
  apply List.ext_getElem?
  intro j
  rw [List.getElem?_set, cellsF_len]
  by_cases hj : j < n
  · rw [cellsF_get _ hj, cellsF_get _ hj]
    by_cases e : i = j
    · subst e; simp [upd, h]
    · simp [upd, e, Ne.symm e]
  · rw [List.getElem?_eq_none (l := cellsF n f) (by simp [cellsF_len]; omega), List.getElem?_eq_none (l := cellsF n (upd f i)) (by simp [cellsF_len]; omega)]
    have : ¬ i = j := by omega
    simp [this]
theorem cellsF_zero (n : Nat) : cellsF n (fun _ => 0) = List.replicate n (.int .i64 0) := by
  unfold cellsF i64v
  rw [List.map_const', List.length_range]
theorem writeN_one {H : AH} {p : Nat} {c : List AV} {t : TypeId} (h : H[p]? = some (.cells c t)) {i : Nat} (hi : i < c.length) (v : AV) (hv : v.oneCell = true) : writeN H p i [v] = some (H.set p (.cells (c.set i v) t)) := by
  unfold writeN
  rw [h]
  simp only [AO.content, AO.withContent, splice_one hi]
  have hi' : i + 1 ≤ c.length := hi
  simp [-Am.AV.oneCell, hv, hi']
/-- Numbers, and how many each label got. -/
structure IdsIn (H : AH) (d j n : Nat) (f : Nat → Int) : Prop where
  box : H[d]? = some (.cells [.slice (.mu j) 0 n (.known n)] 46)
  row : H[j]? = some (.cells (cellsF n f) 70)
  ne : d ≠ j
theorem IdsIn.frame {H H' : AH} {d j n : Nat} {f : Nat → Int} (h : IdsIn H d j n f) (h1 : H'[d]? = H[d]?) (h2 : H'[j]? = H[j]?) : IdsIn H' d j n f := ⟨by rw [h1]; exact h.box, by rw [h2]; exact h.row, h.ne⟩
theorem has_in {H : AH} {d j n : Nat} {f : Nat → Int} (h : IdsIn H d j n f) (a : Int) : ACalls Tryd.prog R 28 [.ptr (.mu d) 0, .int .i64 a] H fun v H' => v = .bool (isL n a) ∧ H' = H := by
  refine ACalls.of_wpE Fns.ok28 (by simp [Fns.a28]) ?_
  have hb := h.box
  by_cases h1 : 0 ≤ a
  · simp [Fns.a28, eqEv, hb, h1, isL]
  · simp [Fns.a28, eqEv, hb, h1, isL]
theorem given_in {H : AH} {d j n : Nat} {f : Nat → Int} (h : IdsIn H d j n f) (hf : ∀ i, 0 ≤ f i ∧ f i ≤ 1000) (a : Int) : ACalls Tryd.prog R 17 [.ptr (.mu d) 0, .int .i64 a] H fun v H' => v = .int .i64 (if isL n a then f a.toNat else 0) ∧ H' = H := by
  refine ACalls.of_wpE Fns.ok17 (by simp [Fns.a17]) ?_
  have hb := h.box
  have hr := h.row
  simp [Fns.a17]
  refine (has_in h a).mono ?_
  rintro v H' ⟨rfl, rfl⟩
  cases hl : isL n a with
  | false => simp
  | true =>
    simp [isL] at hl
    obtain ⟨an, rfl⟩ : ∃ m : Nat, a = m := ⟨a.toNat, by omega⟩
    have han : an < n := by omega
    have hg := cellsF_get f han
    simp [hb, han]
    refine ACalls.of_wpE Fns.ok30 (by simp [Fns.a30]) ?_
    simp [Fns.a30, hr, hg]
theorem next_in {H : AH} {d j n : Nat} {f : Nat → Int} (h : IdsIn H d j n f) (hf : ∀ i, 0 ≤ f i ∧ f i ≤ 1000) (a : Int) : ACalls Tryd.prog R 16 [.ptr (.mu d) 0, .int .i64 a] H fun v H' =>
    (isL n a = true ∧ v = .tuple [.int .i64 (f a.toNat), .bool true] ∧ IdsIn H' d j n (upd f a.toNat) ∧ H'.length = H.length ∧ ∀ i, i ≠ j → H'[i]? = H[i]?) ∨ (isL n a = false ∧ v = .tuple [.int .i64 0, .bool false] ∧ H' = H) := by
  refine ACalls.of_wpE Fns.ok16 (by simp [Fns.a16]) ?_
  have hb := h.box
  have hr := h.row
  simp [Fns.a16]
  refine (has_in h a).mono ?_
  rintro v H' ⟨rfl, rfl⟩
  cases hl : isL n a with
  | false => simp
  | true =>
    simp [isL] at hl
    obtain ⟨an, rfl⟩ : ∃ m : Nat, a = m := ⟨a.toNat, by omega⟩
    have han : an < n := by omega
    have hg := cellsF_get f han
    have hs := cellsF_set f han
    have hbd := hf an
    have hw1 : IntKind.i64.wrap (f an + 1) = f an + 1 := i64_small _ (by omega) (by omega)
    have hw2 : IntKind.i64.wrap (f an) = f an := i64_small _ (by omega) (by omega)
    have hw3 : f an + 1 - 1 = f an := by omega
    have hjl := (List.getElem?_eq_some_iff.1 hr).1
    simp [hb, han]
    refine ACalls.of_wpE Fns.ok29 (by simp [Fns.a29]) ?_
    have hwr := writeN_one hr (i := an) (by rw [cellsF_len]; exact han) (.int .i64 (f an + 1)) rfl
    rw [hs] at hwr
    simp [Fns.a29, hr, hg, hw1, hw2, hw3, hwr]
    exact ⟨⟨by rw [List.getElem?_set, if_neg (Ne.symm h.ne)]; exact hb, by rw [List.getElem?_set, if_pos rfl, if_pos hjl], h.ne⟩, fun i hi => by rw [List.getElem?_set, if_neg (Ne.symm hi)]⟩
theorem len_up {n : Nat} : (upT (rankT n n)).length = n := by rw [upT_len, rankT_len]
theorem new_in {H : AH} {l p q : Nat} {n : Nat} (h1 : 1 ≤ n) (h2 : n ≤ 64) (h : LatIn H l p q (upT (rankT n n)) (dnT (rankT n n))) : ACalls Tryd.prog R 15 [.ptr (.mu l) 0] H fun v H' => Keeps H H' ∧ v = .ptr (.mu (H.length + 1)) 0 ∧ H'.length = H.length + 2 ∧ IdsIn H' (H.length + 1) H.length n (fun _ => 0) := by
  have hL := h.at (R := R) (by rw [rankT_len]; exact h1) (by rw [rankT_len]; exact h2)
  refine ACalls.of_wpE Fns.ok15 (by simp [Fns.a15]) ?_
  simp [Fns.a15]
  refine (len_ok hL).mono ?_
  rintro v H' ⟨rfl, rfl⟩
  rw [len_up]
  have g1 : ¬ (n : Int) < 0 := by omega
  have hz := cellsF_zero n
  have g2 : 8 * (n : Int) ≤ 281474976710656 ∧ (n : Int) ≤ 9223372036854775807 := by omega
  have hzz : zerosEv [AV.int .i64 0] n = cellsF n (fun _ => 0) := by rw [hz, zerosEv_one]
  simp [fillA, splice, hzz, g2, AV.oneCell]
  exact ⟨Keeps.app _ _, ⟨by simp, by simp, by omega⟩⟩
theorem remU8 (r : Nat) : binEv .rem (.int .u8 (r : Int)) (.int .u8 64) = some (.int .u8 ((r % 64 : Nat) : Int)) := by
  show (if (64 : Int) = 0 then none else some (AV.int .u8 ((r : Int).tmod 64))) = _
  rw [if_neg (by decide)]; rfl
def Ints (L : List (List AV)) : Prop := ∀ x ∈ L, Shape [.int .i64] x
theorem Ints.get {L : List (List AV)} (h : Ints L) {i : Nat} (hi : i < L.length) : ∃ z : Int, L[i] = [.int .i64 z] := by
  obtain ⟨v, r, h1, ⟨z, rfl, _⟩, h3⟩ := h _ (List.getElem_mem hi)
  cases (show r = [] from h3)
  exact ⟨z, h1⟩
def CInv (r : Nat) (a : AV) (L : List (List AV)) (d j g n : Nat) (e : Env) (H : AH) : Prop :=
  ∃ (i : Nat) (f : Nat → Int), e 0 = .int .u8 r ∧ e 1 = a ∧ e 7 = .ptr (.mu d) 0 ∧ e 8 = .slice (.mu g) 0 64 (.known 64) ∧ e 9 = .int .i64 i ∧ i ≤ L.length ∧ IdsIn H d j n f ∧ H[g]? = some (.cells (cellsF 64 f) 3) ∧ d ≠ g ∧ j ≠ g ∧
    (∀ x, 0 ≤ f x ∧ f x ≤ i) ∧ ∀ x, n ≤ x → f x = 0
set_option maxHeartbeats 4000000 in
theorem count {a : AV} {L : List (List AV)} {r : Int} (hT : HasTab R) (haw : ∀ H, ACalls Tryd.prog R 11 [] H fun v H' => H' = H ∧ v = .bool true) (hr : 0 ≤ r ∧ r < 256) (hs : Sl R 1 a L) (hi : Ints L) :
    ACalls Tryd.prog R 5 [.int .u8 r, a] [] fun v _ => v = .bool true := by
  obtain ⟨r, rfl⟩ : ∃ m : Nat, r = m := ⟨r.toNat, by omega⟩
  have hlen : (a = .nilslice ∧ L.length = 0) ∨ ∃ b off cap, a = .slice (.ro b) off L.length (.known cap) := by
    rcases hs with ⟨h, hL⟩ | ⟨b, off, cap, h, _⟩
    · exact .inl ⟨h, by simp [hL]⟩
    · exact .inr ⟨b, off, cap, h⟩
  obtain ⟨n, hn⟩ : ∃ n, n = 1 + r % 64 := ⟨_, rfl⟩
  have hn1 : 1 ≤ n := by omega
  have hn2 : n ≤ 64 := by omega
  obtain ⟨m, hm⟩ : ∃ m, m = r % 64 := ⟨_, rfl⟩
  have hrem := remU8 r
  rw [← hm] at hrem hn
  have hcv : IntKind.i64.wrap (m : Int) = (m : Int) := i64_small _ (by omega) (by omega)
  have hcv2 : IntKind.i64.wrap (1 + (m : Int)) = (n : Int) := by rw [i64_small _ (by omega) (by omega), hn]; push_cast; rfl
  have hmay : RankMay (n : Int) 0 := ⟨by omega, by omega, by omega, by omega, by simp; omega⟩
  refine ACalls.of_wpE Fns.ok5 (by simp [Fns.a5]) ?_
  simp [Fns.a5]
  refine (haw []).mono ?_
  rintro v H' ⟨rfl, rfl⟩
  by_cases hbig : 500 < L.length
  · have hbig' : (500 : Int) < (L.length : Int) := by omega
    rcases hlen with ⟨rfl, h0⟩ | ⟨b, off, cap, rfl⟩
    · omega
    · simp [hbig, hbig']
  have hbig' : ¬ (500 : Int) < (L.length : Int) := by omega
  refine (?_ : _ → _) hlen
  rintro (⟨ha, hL0⟩ | ⟨b0, off0, cap0, ha⟩) <;>
  · simp [ha, hrem, hcv, hcv2, hbig, hbig']
    refine (rank_sure hT _ _ _ hmay).mono ?_
    rintro v H1 ⟨k1, l, p, q, rfl, hin, _, _, _⟩
    simp
    refine (new_in hn1 hn2 (by simpa using hin)).mono ?_
    rintro v H2 ⟨k2, rfl, hl2, hI⟩
    simp
    have hz64 : zerosEv [AV.int .i64 0] 64 = cellsF 64 (fun _ => 0) := by rw [cellsF_zero]; rfl
    have hd1 := (List.getElem?_eq_some_iff.1 hI.box).1
    refine AWp.loop (fun e H => CInv r a L (H1.length + 1) H1.length H2.length n e H) (fun e _ => match e 9 with | .int _ i => ((L.length : Int) - i).toNat | _ => 0) ⟨0, fun _ => 0, rfl, by rw [ha]; rfl, rfl, rfl, rfl, by omega, ?_, ?_, by omega, by omega, by simp, by simp⟩ ?_
    · exact hI.frame (List.getElem?_append_left (by omega)) (List.getElem?_append_left (by omega))
    · simp [hz64]
    rintro e H ⟨i, f, h0, h1, h7, h8, h9, hiL, hI, hg, hdg, hjg, hf, hz⟩
    clear hl2 k2 hd1 hin k1
    generalize H1.length + 1 = d at *
    generalize H1.length = j at *
    generalize H2.length = g at *
    have hf' : ∀ x, 0 ≤ f x ∧ f x ≤ 1000 := fun x => ⟨(hf x).1, by have := (hf x).2; omega⟩
    refine wpE_sound _ ?_
    by_cases hlt : i < L.length
    · obtain ⟨b, off, cap, ha', hcell⟩ := hs.at hlt
      obtain ⟨z, hzv⟩ := hi.get hlt
      have hR0 : R b (off + i) = some (.int .i64 z) := by have := hcell 0 (.int .i64 z) (by simp [hzv]); simpa using this
      have hlt' : (i : Int) < (L.length : Int) := by omega
      have hw1 := i64_small ((i : Int) + 1) (by omega) (by omega)
      rw [ha'] at h1
      simp [h0, h1, h7, h8, h9, hlt, hlt', hR0]
      refine (next_in hI hf' z).mono ?_
      rintro v H3 (⟨hl, rfl, hI3, hlen3, hfr⟩ | ⟨hl, rfl, rfl⟩)
      · simp [isL] at hl
        obtain ⟨zn, rfl⟩ : ∃ k : Nat, z = k := ⟨z.toNat, by omega⟩
        have hzn : zn < n := by omega
        have hz0 : ¬ (zn : Int) < 0 := by omega
        have hzn' : ¬ (n : Int) ≤ (zn : Int) := by omega
        have hzn2 : ¬ n ≤ zn := by omega
        have hg3 : H3[g]? = some (.cells (cellsF 64 f) 3) := by rw [hfr g (Ne.symm hjg)]; exact hg
        have h64 : zn < 64 := by omega
        have h64' : (zn : Int) < 64 := by omega
        have hget := cellsF_get (n := 64) f h64
        have hget' := cellsF_get (n := 64) (upd f zn) h64
        have hup : upd f zn zn = f zn + 1 := by simp [upd]
        have hset := cellsF_set (n := 64) f h64
        have hbd := hf zn
        have hwf := i64_small (f zn + 1) (by omega) (by omega)
        have hwr := writeN_one hg3 (i := zn) (by rw [cellsF_len]; exact h64) (.int .i64 (f zn + 1)) rfl
        rw [hset] at hwr
        have hgl := (List.getElem?_eq_some_iff.1 hg3).1
        have hI4 : IdsIn (H3.set g (.cells (cellsF 64 (upd f zn)) 3)) d j n (upd f zn) := hI3.frame (by rw [List.getElem?_set, if_neg (Ne.symm hdg)]) (by rw [List.getElem?_set, if_neg (Ne.symm hjg)])
        have hg4 : (H3.set g (.cells (cellsF 64 (upd f zn)) 3))[g]? = some (.cells (cellsF 64 (upd f zn)) 3) := by rw [List.getElem?_set, if_pos rfl, if_pos hgl]
        have hfu : ∀ x, 0 ≤ upd f zn x ∧ upd f zn x ≤ (i + 1 : Nat) := fun x => by
          have := hf x
          unfold upd
          split <;> omega
        have hfu' : ∀ x, 0 ≤ upd f zn x ∧ upd f zn x ≤ 1000 := fun x => ⟨(hfu x).1, by have := (hfu x).2; omega⟩
        have hzu : ∀ x, n ≤ x → upd f zn x = 0 := fun x hx => by
          have : ¬ x = zn := by omega
          simp [upd, this, hz x hx]
        have hgi := given_in (R := R) hI4 hfu' zn
        simp [isL, hzn] at hgi
        generalize H3.set g (.cells (cellsF 64 (upd f zn)) 3) = H4 at *
        simp [h0, h1, h7, h8, h9, hR0, hz0, hzn', hzn2, hrem, hcv, hcv2, hg3, hget, h64, h64', hwf, hwr, hlt, hlt']
        refine AWp.sched [0, 1, 2, 3, 4, 6, 7, 8, 9, 10, 11, 12, 5, 13] Fns.mixed (by decide +kernel) ?_
        simp [h0, h1, h7, h8, h9, hR0, hz0, hzn', hzn2, hg4, hget', h64, h64', hlt, hlt', hup]
        refine hgi.mono ?_
        rintro v H5 ⟨rfl, rfl⟩
        simp [h0, h1, h7, h8, h9, hR0, hg4, hget', h64, h64', hlt, hlt', hup, recheck, hw1]
        exact ⟨⟨i + 1, upd f zn, by simp [h0], by simp [h1, ha'], by simp [h7], by simp [h8], by simp, by omega, hI4, hg4, hdg, hjg, hfu, hzu⟩, by omega⟩
      · simp [isL] at hl
        have hgi := given_in (R := R) hI hf' z
        have hl' : isL n z = false := by simpa [isL] using hl
        rw [hl'] at hgi
        by_cases hz0 : z < 0
        · simp [h0, h1, h7, h8, h9, hR0, hlt, hlt', hz0]
          refine hgi.mono ?_
          rintro v H5 ⟨rfl, rfl⟩
          simp [h0, h1, h7, h8, h9, hR0, hlt, hlt', hz0, hw1]
          exact ⟨⟨i + 1, f, by simp [h0], by simp [h1, ha'], by simp [h7], by simp [h8], by simp, by omega, hI, hg, hdg, hjg, fun x => ⟨(hf x).1, by have := (hf x).2; omega⟩, hz⟩, by omega⟩
        · have hzn : (n : Int) ≤ z := by have := hl (by omega); omega
          simp [h0, h1, h7, h8, h9, hR0, hlt, hlt', hz0, hzn, hrem, hcv, hcv2]
          refine hgi.mono ?_
          rintro v H5 ⟨rfl, rfl⟩
          simp [h0, h1, h7, h8, h9, hR0, hlt, hlt', hz0, hw1]
          exact ⟨⟨i + 1, f, by simp [h0], by simp [h1, ha'], by simp [h7], by simp [h8], by simp, by omega, hI, hg, hdg, hjg, fun x => ⟨(hf x).1, by have := (hf x).2; omega⟩, hz⟩, by omega⟩
    · obtain rfl : i = L.length := by omega
      have hnl : ¬ (L.length : Int) < 0 := by omega
      simp [h0, h1, ha, h7, h8, h9, hnl]
      refine AWp.loop (fun e' H' => H' = H ∧ e' 7 = .ptr (.mu d) 0 ∧ e' 8 = .slice (.mu g) 0 64 (.known 64) ∧ ∃ k : Nat, e' 12 = .int .i64 k ∧ k ≤ 64) (fun e _ => match e 12 with | .int _ i => (64 - i).toNat | _ => 0) ⟨rfl, by simp [h7], by simp [h8], 0, by simp, by omega⟩ ?_
      rintro e' H' ⟨rfl, h7, h8, k, h12, hk⟩
      refine wpE_sound _ ?_
      by_cases hk2 : k < 64
      · have hk3 : (k : Int) < 64 := by omega
        have hgi := given_in (R := R) hI hf' k
        have hwk := i64_small ((k : Int) + 1) (by omega) (by omega)
        have hget := cellsF_get (n := 64) f hk2
        have hval : (if isL n (k : Int) = true then f (k : Int).toNat else 0) = f k := by
          by_cases hkn : k < n
          · simp [isL, hkn]
          · simp [isL, hkn, hz k (by omega)]
        rw [hval] at hgi
        simp [h7, h8, h12, hk2, hk3]
        refine AWp.sched [0, 1, 3, 4, 5, 6, 2, 7] Fns.mixed (by decide +kernel) ?_
        simp [h7, h8, h12, hk2, hk3, hg, hget]
        refine hgi.mono ?_
        rintro v H5 ⟨rfl, rfl⟩
        simp [h7, h8, h12, hk2, hk3, hg, hget, recheck, hwk]
        exact ⟨⟨k + 1, by simp, by omega⟩, by omega⟩
      · have hk3 : ¬ (k : Int) < 64 := by omega
        simp [h7, h8, h12, hk2, hk3]
end Go.Proofs.YtgdmalobagncpaaDoor.Cnt
