/- The walk that makes joins and meets. -/
import Derived.Test.YtjglohfkpigdfaaDoorLatJoin
namespace Go.Proofs.YtjglohfkpigdfaaDoor.Latt
open Go Go.RowKit Am
set_option maxRecDepth 100000
set_option linter.unusedSimpArgs false
set_option linter.unusedVariables false
attribute [-simp] Am.binEv Am.intBin Am.read1
attribute [local simp] binEv_lss binEv_leq binEv_gtr binEv_geq binEv_eql binEv_neq binEv_add binEv_sub binEv_mul binEv_shr58 read1_ro read1_mu
variable {R : Ro}
theorem Mk.latAt {H0 H : AH} {l p q c : Nat} {T : List (List Bool)} {kj km : Nat} {jv mv : AV} (h : Mk H0 H l p q c T kj km jv mv) (g : GoodT T) : LatAt R H l (upT T) (dnT T) :=
  ⟨⟨_, _, _, h.box, sees_cells h.pu (by simp [upT_len]), sees_cells h.qd (by simp [dnT_len])⟩, by rw [upT_len]; exact g.lo, by rw [upT_len, dnT_len], by rw [upT_len]; exact g.hi,
   fun x j hj => by rw [upT_test] at hj; simp at hj; rw [upT_len]; exact hj.1.2, fun x j hj => by rw [dnT_test] at hj; simp at hj; rw [upT_len]; exact hj.1.2⟩
theorem i8_small (x : Nat) (h : x < 64) : IntKind.wrap IntKind.i8 (x : Int) = (x : Int) := Am.wrap_small IntKind.i8 (x : Int) (by simp only [mx]; omega) (by simp only [neg?, mx, if_true]; omega)
set_option maxHeartbeats 16000000 in
theorem made1_ok (hT : HasTab R) {T : List (List Bool)} (g : GoodT T) {H0 : AH} {l p q c : Nat} (h : Mk H0 H0 l p q c T 0 0 .nilslice .nilslice) :
    ACalls Tryd.prog R 33 [.ptr (.mu c) 0] H0 fun _ H' => ∃ jv mv, Mk H0 H' l p q c T (T.length * T.length) (T.length * T.length) jv mv := by
  refine ACalls.of_wpE Fns.ok33 (by simp [Fns.a33]) ?_
  have hn1 := g.hi
  have hn0 := g.lo
  simp [Fns.a33, h.cap]
  refine (len_ok (h.latAt g)).mono ?_
  rintro v H' ⟨rfl, rfl⟩
  simp [upT_len]
  refine AWp.loop (fun e H1 => e 0 = .ptr (.mu c) 0 ∧ e 4 = .int .i64 T.length ∧ ∃ a : Nat, e 5 = .int .i64 a ∧ a ≤ T.length ∧ ∃ jv mv, Mk H' H1 l p q c T (a * T.length) (a * T.length) jv mv)
    (fun e _ => match e 5 with | .int _ i => ((T.length : Int) - i).toNat | _ => 0) ⟨by simp, by simp, 0, by simp, by omega, _, _, by simpa using h⟩ ?_
  rintro e H1 ⟨h0, h4, a, h5, ha, jv, mv, hM⟩
  refine wpE_sound _ ?_
  by_cases hal : a < T.length
  · have hal' : (a : Int) < (T.length : Int) := by omega
    have hw1 := i64_small ((a : Int) + 1) (by omega) (by omega)
    simp [h0, h4, h5, hal, hal', hM.cap]
    refine (len_ok (hM.latAt g)).mono ?_
    rintro v H2 ⟨rfl, rfl⟩
    simp [upT_len]
    refine AWp.loop (fun e H1 => e 0 = .ptr (.mu c) 0 ∧ e 1 = .int .i64 a ∧ e 4 = .int .i64 T.length ∧ e 5 = .int .i64 a ∧ e 9 = .int .i64 T.length ∧ ∃ b : Nat, e 10 = .int .i64 b ∧ b ≤ T.length ∧ ∃ jv mv, Mk H' H1 l p q c T (a * T.length + b) (a * T.length + b) jv mv)
      (fun e _ => match e 10 with | .int _ i => ((T.length : Int) - i).toNat | _ => 0) ⟨by simp [h0], by simp, by simp [h4], by simp [h5], by simp, 0, by simp, by omega, _, _, hM⟩ ?_
    rintro e H1 ⟨h0, h1, h4, h5, h9, b, h10, hb, jv, mv, hM⟩
    refine wpE_sound _ ?_
    by_cases hbl : b < T.length
    · have hbl' : (b : Int) < (T.length : Int) := by omega
      have hw2 := i64_small ((b : Int) + 1) (by omega) (by omega)
      have hcap := hM.cap
      have hbox := hM.box
      have hpu := hM.pu
      have hqd := hM.qd
      have hra := (at'_map (of := upT T) (i := a) (by rw [upT_len]; exact hal))
      have hrb := (at'_map (of := upT T) (i := b) (by rw [upT_len]; exact hbl))
      have hand := binEv_and64 (at' (upT T) a) (at' (upT T) b) (upT_lt64 g a) (upT_lt64 g b)
      simp [h0, h1, h4, h5, h9, h10, hbl, hbl']
      refine AWp.sched [0, 1, 2, 3, 4, 5, 6, 7, 8, 9, 10, 11, 12, 13, 14, 15, 16, 17, 18, 19, 20, 21, 22, 23, 24, 25, 26, 27, 28, 29, 30] Fns.mixed (by decide +kernel) ?_
      simp [h0, h1, h10, hcap, hbox, hpu, hra, hrb, u64v, hal, hal', hbl, hbl', hand]
      refine (bestJ hT g hpu hal hbl).mono ?_
      rintro v H3 ⟨rfl, rfl⟩
      obtain ⟨x, hx⟩ : ∃ x, x = jn T a b := ⟨_, rfl⟩
      have hx8 := i8_small x (by rw [hx]; have := jn_lt g hal hbl; omega)
      obtain ⟨G, hG, hmid, G', hwr, hM2⟩ := hM.stepJ (R := R) hbl hn1 hal hx
      rw [← hx]
      have hcl := (List.getElem?_eq_some_iff.1 hcap).1
      have hll := (List.getElem?_eq_some_iff.1 hbox).1
      have hcap1 : (H3 ++ [AO.cells [AV.int .i8 (x : Int)] 62])[c]? = _ := (List.getElem?_append_left hcl).trans hcap
      have hbox1 : (H3 ++ [AO.cells [AV.int .i8 (x : Int)] 62])[l]? = _ := (List.getElem?_append_left hll).trans hbox
      have hcapG := hmid.c.trans hcap
      have hboxG := hmid.l.trans hbox
      simp [recheck, h0, h1, h10, hcap, hbox, hx8, fillA, splice, zerosEv, AV.oneCell, hcap1, hbox1, hG, hcapG, hboxG, hwr]
      have hcap := hM2.cap
      have hbox := hM2.box
      have hpu := hM2.pu
      have hqd := hM2.qd
      have hra := (at'_map (of := dnT T) (i := a) (by rw [dnT_len]; exact hal))
      have hrb := (at'_map (of := dnT T) (i := b) (by rw [dnT_len]; exact hbl))
      have hand := binEv_and64 (at' (dnT T) a) (at' (dnT T) b) (dnT_lt64 g a) (dnT_lt64 g b)
      refine AWp.sched [0, 1, 2, 3, 4, 5, 6, 7, 8, 9, 10, 11, 12, 13, 14, 15, 16, 17, 18, 19, 20, 21, 22, 23, 24, 25, 26, 27, 28, 29, 30] Fns.mixed (by decide +kernel) ?_
      simp [h0, h1, h10, hcap, hbox, hqd, hra, hrb, u64v, hal, hal', hbl, hbl', hand]
      refine (bestM hT g hqd hal hbl).mono ?_
      rintro v H4 ⟨rfl, rfl⟩
      obtain ⟨y, hy⟩ : ∃ y, y = mt T a b := ⟨_, rfl⟩
      have hy8 := i8_small y (by rw [hy]; have := mt_lt g hal hbl; omega)
      obtain ⟨G2, hG2, hmid2, G2', hwr2, hM3⟩ := hM2.stepM (R := R) hbl hn1 hal hy
      rw [← hy]
      have hcl := (List.getElem?_eq_some_iff.1 hcap).1
      have hll := (List.getElem?_eq_some_iff.1 hbox).1
      have hcap1 : (H4 ++ [AO.cells [AV.int .i8 (y : Int)] 62])[c]? = _ := (List.getElem?_append_left hcl).trans hcap
      have hbox1 : (H4 ++ [AO.cells [AV.int .i8 (y : Int)] 62])[l]? = _ := (List.getElem?_append_left hll).trans hbox
      have hcapG := hmid2.c.trans hcap
      have hboxG := hmid2.l.trans hbox
      simp [recheck, h0, h1, h10, hcap, hbox, hy8, fillA, splice, zerosEv, AV.oneCell, hcap1, hbox1, hG2, hcapG, hboxG, hwr2, hw2]
      exact ⟨⟨h4, h5, h9, b + 1, by simp, by omega, _, _, hM3⟩, by omega⟩
    · obtain rfl : b = T.length := by omega
      have e1 : a * T.length + T.length = (a + 1) * T.length := by rw [Nat.add_mul, Nat.one_mul]
      rw [e1] at hM
      simp [h0, h4, h5, h9, h10, hw1]
      exact ⟨⟨a + 1, by simp, by omega, _, _, hM⟩, by omega⟩
  · obtain rfl : a = T.length := by omega
    simp [h0, h4, h5]
    exact ⟨_, _, hM⟩
end Go.Proofs.YtjglohfkpigdfaaDoor.Latt
