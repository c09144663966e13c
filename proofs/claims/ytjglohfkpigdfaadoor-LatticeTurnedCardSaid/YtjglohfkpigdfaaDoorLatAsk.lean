/- Joins, meets, the highest and the lowest label, as they are asked for. -/
import Derived.Test.YtjglohfkpigdfaaDoorLatMade
namespace Go.Proofs.YtjglohfkpigdfaaDoor.Latt
open Go Go.RowKit Am
set_option maxRecDepth 100000
set_option linter.unusedSimpArgs false
set_option linter.unusedVariables false
attribute [-simp] Am.binEv Am.intBin Am.read1
attribute [local simp] binEv_lss binEv_leq binEv_gtr binEv_geq binEv_eql binEv_neq binEv_add binEv_sub binEv_mul binEv_shr58 read1_ro read1_mu
variable {R : Ro}
/-- A lattice whose joins and meets are, or are not yet, there. -/
structure LatSt (H : AH) (l p q : Nat) (T : List (List Bool)) : Prop where
  box : H[l]? = some (.cells [.slice (.mu p) 0 T.length (.known T.length), .slice (.mu q) 0 T.length (.known T.length), .int .u32 0, .int .i32 0, .int .u32 0, .nilslice, .nilslice] 53) ∨
    ∃ j m, H[l]? = some (.cells [.slice (.mu p) 0 T.length (.known T.length), .slice (.mu q) 0 T.length (.known T.length), .int .u32 1, .int .i32 0, .int .u32 0, .slice (.mu j) 0 (T.length * T.length) (.opn 0), .slice (.mu m) 0 (T.length * T.length) (.opn 0)] 53) ∧
      H[j]? = some (.row (jl T (T.length * T.length)) 62 1) ∧ H[m]? = some (.row (ml T (T.length * T.length)) 62 1)
  pu : H[p]? = some (.cells ((upT T).map u64v) 58)
  qd : H[q]? = some (.cells ((dnT T).map u64v) 58)
  dis : p ≠ l ∧ q ≠ l
/-- What is not the lattice's own stays. -/
def Stays (l : Nat) (H H' : AH) : Prop := H.length ≤ H'.length ∧ ∀ i, i < H.length → i ≠ l → H'[i]? = H[i]?
theorem Stays.refl (l : Nat) (H : AH) : Stays l H H := ⟨Nat.le_refl _, fun _ _ _ => rfl⟩
theorem Stays.trans {l : Nat} {A B C : AH} (h : Stays l A B) (k : Stays l B C) : Stays l A C := ⟨Nat.le_trans h.1 k.1, fun i hi hl => by rw [k.2 i (by have := h.1; omega) hl, h.2 i hi hl]⟩
theorem LatSt.latAt {H : AH} {l p q : Nat} {T : List (List Bool)} (h : LatSt H l p q T) (g : GoodT T) : LatAt R H l (upT T) (dnT T) := by
  refine ⟨?_, by rw [upT_len]; exact g.lo, by rw [upT_len, dnT_len], by rw [upT_len]; exact g.hi,
   fun x j hj => by rw [upT_test] at hj; simp at hj; rw [upT_len]; exact hj.1.2, fun x j hj => by rw [dnT_test] at hj; simp at hj; rw [upT_len]; exact hj.1.2⟩
  rcases h.box with hb | ⟨_, _, hb, _, _⟩
  · exact ⟨_, _, _, hb, sees_cells h.pu (by simp [upT_len]), sees_cells h.qd (by simp [dnT_len])⟩
  · exact ⟨_, _, _, hb, sees_cells h.pu (by simp [upT_len]), sees_cells h.qd (by simp [dnT_len])⟩
theorem LatIn.st {H : AH} {l p q : Nat} {T : List (List Bool)} (h : LatIn H l p q (upT T) (dnT T)) : LatSt H l p q T :=
  ⟨.inl (by have := h.box; rwa [upT_len] at this), h.pu, h.qd, h.dis⟩
theorem load_ok {H : AH} {l : Nat} {a b : AV} {cs : List AV} {t : TypeId} {z : Int} (h : H[l]? = some (.cells (a :: b :: .int .u32 z :: cs) t)) : ACalls Tryd.prog R 34 [.ptr (.mu l) 2] H fun v H' => v = .bool (!decide (z = 0)) ∧ H' = H := by
  refine ACalls.of_wpE Fns.ok34 (by simp [Fns.a34]) ?_
  simp [Fns.a34, h]
theorem lock_ok {H : AH} {l : Nat} {a b d : AV} {cs : List AV} {t : TypeId} (h : H[l]? = some (.cells (a :: b :: d :: .int .i32 0 :: cs) t)) (hc : ∀ v ∈ cs, v.oneCell = true) : ACalls Tryd.prog R 37 [.ptr (.mu l) 3] H fun _ H' => H' = H.set l (.cells (a :: b :: d :: .int .i32 1 :: cs) t) := by
  refine ACalls.of_wpE Fns.ok37 (by simp [Fns.a37]) ?_
  have hl := (List.getElem?_eq_some_iff.1 h).1
  simp [Fns.a37]
  have hw : writeN H l 3 [.int .i32 1] = some (H.set l (.cells (a :: b :: d :: .int .i32 1 :: cs) t)) := writeN_box h (by simp) rfl
  refine ACalls.of_wpE Fns.ok40 (by simp [Fns.a40]) ?_
  have hr : (H.set l (.cells (a :: b :: d :: .int .i32 1 :: cs) t))[l]? = some (.cells (a :: b :: d :: .int .i32 1 :: cs) t) := by rw [List.getElem?_set, if_pos rfl, if_pos hl]
  simp [Fns.a40, h, hw, hr]
theorem store_ok {H : AH} {l : Nat} {a b : AV} {z : Int} {cs : List AV} {t : TypeId} (h : H[l]? = some (.cells (a :: b :: .int .u32 z :: cs) t)) : ACallsD Tryd.prog R 39 [.ptr (.mu l) 2, .bool true] H fun _ H' => H' = H.set l (.cells (a :: b :: .int .u32 1 :: cs) t) := by
  refine ACallsD.of_body Fns.ok39 (by simp [Fns.a39]) (wpE_sound _ ?_)
  have hw : writeN H l 2 [.int .u32 1] = some (H.set l (.cells (a :: b :: .int .u32 1 :: cs) t)) := writeN_box h (by simp) rfl
  simp [Fns.a39]
  refine AWp.sched [0, 1, 2, 3, 4, 5] Fns.mixed (by decide +kernel) ?_
  simp [h]
  refine ACalls.of_wpE Fns.ok43 (by simp [Fns.a43]) ?_
  simp [Fns.a43, recheck, h, hw]
theorem unlock_ok {H : AH} {l : Nat} {a b d : AV} {cs : List AV} {t : TypeId} (h : H[l]? = some (.cells (a :: b :: d :: .int .i32 1 :: cs) t)) : ACallsD Tryd.prog R 38 [.ptr (.mu l) 3] H fun _ H' => H' = H.set l (.cells (a :: b :: d :: .int .i32 0 :: cs) t) := by
  refine ACallsD.of_body Fns.ok38 (by simp [Fns.a38]) (wpE_sound _ ?_)
  have hw : writeN H l 3 [.int .i32 0] = some (H.set l (.cells (a :: b :: d :: .int .i32 0 :: cs) t)) := writeN_box h (by simp) rfl
  simp [Fns.a38]
  refine ACalls.of_wpE Fns.ok41 (by simp [Fns.a41]) ?_
  have h0 : IntKind.i32.wrap 0 = 0 := rfl
  simp [Fns.a41, h, hw, h0]
/-- Joins and meets that are there. -/
def Made (H : AH) (l p q : Nat) (T : List (List Bool)) : Prop := ∃ j m, H[l]? = some (.cells [.slice (.mu p) 0 T.length (.known T.length), .slice (.mu q) 0 T.length (.known T.length), .int .u32 1, .int .i32 0, .int .u32 0, .slice (.mu j) 0 (T.length * T.length) (.opn 0), .slice (.mu m) 0 (T.length * T.length) (.opn 0)] 53) ∧
      H[j]? = some (.row (jl T (T.length * T.length)) 62 1) ∧ H[m]? = some (.row (ml T (T.length * T.length)) 62 1)
theorem set_get {H : AH} {l : Nat} {o o' : AO} (h : H[l]? = some o) : (H.set l o')[l]? = some o' := by rw [List.getElem?_set, if_pos rfl, if_pos (List.getElem?_eq_some_iff.1 h).1]
theorem set_ne {H : AH} {l i : Nat} {o' : AO} (h : i ≠ l) : (H.set l o')[i]? = H[i]? := by rw [List.getElem?_set, if_neg (Ne.symm h)]
theorem RowAt.full {H : AH} {v : AV} {k : Nat} {t : TypeId} {C : List AV} (h : RowAt H v k 1 t C) (hk : 0 < k) : ∃ j, v = .slice (.mu j) 0 k (.opn 0) ∧ H[j]? = some (.row C t 1) := by
  rcases h with ⟨_, h, _⟩ | ⟨j, h1, h2, _⟩
  · omega
  · exact ⟨j, h1, h2⟩
theorem made_ok (hT : HasTab R) {T : List (List Bool)} (g : GoodT T) {H : AH} {l p q : Nat} (S : LatSt H l p q T) :
    ACalls Tryd.prog R 27 [.ptr (.mu l) 0] H fun _ H' => Stays l H H' ∧ LatSt H' l p q T ∧ Made H' l p q T := by
  refine ACalls.of_wpE Fns.ok27 (by simp [Fns.a27]) ?_
  simp [Fns.a27, AV.oneCell]
  refine ACalls.of_wpE Fns.ok32 (by simp [Fns.a32]) ?_
  have hpl := (List.getElem?_eq_some_iff.1 S.pu).1
  have hql := (List.getElem?_eq_some_iff.1 S.qd).1
  simp [Fns.a32]
  rcases S.box with hb | ⟨j, m, hb, hj, hm⟩
  · have hll := (List.getElem?_eq_some_iff.1 hb).1
    have hb1 : (H ++ [AO.cells [AV.ptr (.mu l) 0] 22])[l]? = _ := (List.getElem?_append_left hll).trans hb
    refine (load_ok hb1).mono ?_
    rintro v H1 ⟨rfl, rfl⟩
    simp
    refine once_sym Fns.once_law (f := 33) (fst := []) (by kernel_rfl) ?_
    refine (lock_ok hb1 (by simp [AV.oneCell])).mono ?_
    rintro v H1 rfl
    have hb2 := set_get (o' := .cells [.slice (.mu p) 0 T.length (.known T.length), .slice (.mu q) 0 T.length (.known T.length), .int .u32 0, .int .i32 1, .int .u32 0, .nilslice, .nilslice] 53) hb1
    refine (load_ok hb2).mono ?_
    rintro v H1 ⟨rfl, rfl⟩
    refine ⟨by simp, ?_⟩
    have hM : Mk (List.set (H ++ [AO.cells [AV.ptr (.mu l) 0] 22]) l (.cells [.slice (.mu p) 0 T.length (.known T.length), .slice (.mu q) 0 T.length (.known T.length), .int .u32 0, .int .i32 1, .int .u32 0, .nilslice, .nilslice] 53)) (List.set (H ++ [AO.cells [AV.ptr (.mu l) 0] 22]) l (.cells [.slice (.mu p) 0 T.length (.known T.length), .slice (.mu q) 0 T.length (.known T.length), .int .u32 0, .int .i32 1, .int .u32 0, .nilslice, .nilslice] 53))
        l p q H.length T 0 0 .nilslice .nilslice := by
      refine ⟨hb2, by rw [set_ne S.dis.1, List.getElem?_append_left hpl]; exact S.pu, by rw [set_ne S.dis.2, List.getElem?_append_left hql]; exact S.qd, by rw [set_ne (by omega)]; simp, RowAt.nil _ _ _, RowAt.nil _ _ _,
        fun _ _ _ _ e => (by cases e), fun _ _ _ _ e => (by cases e), fun _ _ _ _ _ _ _ e => (by cases e), ?_, ⟨S.dis.1, S.dis.2, by omega⟩, Nat.le_refl _, fun _ _ _ => rfl⟩
      simp; omega
    refine (made1_ok hT g hM).mono ?_
    rintro v H1 ⟨jv, mv, hM1⟩
    have hk1 := hM1.keeps
    simp only [List.length_set, List.length_append, List.length_cons, List.length_nil] at hk1
    have hlo := hM1.low
    simp only [List.length_set, List.length_append, List.length_cons, List.length_nil] at hlo
    have hn0 : 0 < T.length * T.length := Nat.mul_pos g.lo g.lo
    obtain ⟨j, rfl, hj⟩ := RowAt.full hM1.jr hn0
    obtain ⟨m, rfl, hm⟩ := RowAt.full hM1.mr hn0
    have hjlo := hM1.jlo j _ _ _ rfl
    have hmlo := hM1.mlo m _ _ _ rfl
    simp only [List.length_set, List.length_append, List.length_cons, List.length_nil] at hjlo hmlo
    refine (store_ok hM1.box).mono ?_
    rintro v H2 rfl
    have hb3 := set_get (o' := .cells [.slice (.mu p) 0 T.length (.known T.length), .slice (.mu q) 0 T.length (.known T.length), .int .u32 1, .int .i32 1, .int .u32 0, .slice (.mu j) 0 (T.length * T.length) (.opn 0), .slice (.mu m) 0 (T.length * T.length) (.opn 0)] 53) hM1.box
    refine (unlock_ok hb3).mono ?_
    rintro v H2 rfl
    have hb4 := set_get (o' := .cells [.slice (.mu p) 0 T.length (.known T.length), .slice (.mu q) 0 T.length (.known T.length), .int .u32 1, .int .i32 0, .int .u32 0, .slice (.mu j) 0 (T.length * T.length) (.opn 0), .slice (.mu m) 0 (T.length * T.length) (.opn 0)] 53) hM1.box
    have hjl : j ≠ l := by omega
    have hml : m ≠ l := by omega
    have hmade : Made (List.set H1 l (.cells [.slice (.mu p) 0 T.length (.known T.length), .slice (.mu q) 0 T.length (.known T.length), .int .u32 1, .int .i32 0, .int .u32 0, .slice (.mu j) 0 (T.length * T.length) (.opn 0), .slice (.mu m) 0 (T.length * T.length) (.opn 0)] 53)) l p q T :=
      ⟨j, m, hb4, by rw [set_ne hjl]; exact hj, by rw [set_ne hml]; exact hm⟩
    simp
    refine ⟨⟨by simp; omega, fun i hi hil => ?_⟩, ⟨.inr hmade, by rw [set_ne S.dis.1]; exact hM1.pu, by rw [set_ne S.dis.2]; exact hM1.qd, S.dis⟩, hmade⟩
    rw [set_ne hil, hk1.2 i (by omega) hil, set_ne hil, List.getElem?_append_left hi]
  · have hll := (List.getElem?_eq_some_iff.1 hb).1
    have hjl := (List.getElem?_eq_some_iff.1 hj).1
    have hml := (List.getElem?_eq_some_iff.1 hm).1
    have hb1 : (H ++ [AO.cells [AV.ptr (.mu l) 0] 22])[l]? = _ := (List.getElem?_append_left hll).trans hb
    refine (load_ok hb1).mono ?_
    rintro v H1 ⟨rfl, rfl⟩
    have hmade : Made (H ++ [AO.cells [AV.ptr (.mu l) 0] 22]) l p q T := ⟨j, m, hb1, by rw [List.getElem?_append_left hjl]; exact hj, by rw [List.getElem?_append_left hml]; exact hm⟩
    simp
    exact ⟨⟨by simp, fun i hi _ => List.getElem?_append_left hi⟩, ⟨.inr hmade, by rw [List.getElem?_append_left hpl]; exact S.pu, by rw [List.getElem?_append_left hql]; exact S.qd, S.dis⟩, hmade⟩
/-- The join of any two numbers. -/
noncomputable def jnI (T : List (List Bool)) (a b : Int) : Int := if isL T.length a && isL T.length b then jn T a.toNat b.toNat else -1
noncomputable def mtI (T : List (List Bool)) (a b : Int) : Int := if isL T.length a && isL T.length b then mt T a.toNat b.toNat else -1
theorem isL_nat {n : Nat} {a : Int} (h : isL n a = true) : ∃ x : Nat, a = x ∧ x < n := by
  simp [isL] at h
  exact ⟨a.toNat, by omega, by omega⟩
set_option maxHeartbeats 4000000 in
theorem join_ok (hT : HasTab R) {T : List (List Bool)} (g : GoodT T) {H : AH} {l p q : Nat} (S : LatSt H l p q T) (a b : Int) :
    ACalls Tryd.prog R 15 [.ptr (.mu l) 0, .int .i64 a, .int .i64 b] H fun v H' => v = .int .i64 (jnI T a b) ∧ Stays l H H' ∧ LatSt H' l p q T := by
  have hL := S.latAt (R := R) g
  have hul : (upT T).length = T.length := upT_len T
  refine ACalls.of_wpE Fns.ok15 (by simp [Fns.a15]) ?_
  unfold jnI
  simp [Fns.a15]
  refine (has_ok hL a).mono ?_
  rintro v H' ⟨rfl, rfl⟩
  rw [hul]
  cases ha : isL T.length a with
  | false => simp; exact ⟨Stays.refl _ _, S⟩
  | true =>
    simp
    refine (has_ok hL b).mono ?_
    rintro v H' ⟨rfl, rfl⟩
    rw [hul]
    cases hb : isL T.length b with
    | false => simp; exact ⟨Stays.refl _ _, S⟩
    | true =>
      obtain ⟨x, rfl, hx⟩ := isL_nat ha
      obtain ⟨y, rfl, hy⟩ := isL_nat hb
      simp
      refine (made_ok hT g S).mono ?_
      rintro v H1 ⟨hst, S1, j, m, hbox, hj, hm⟩
      have hn := g.hi
      have hxn : x * T.length ≤ 63 * 64 := Nat.mul_le_mul (by omega) hn
      have hlt : x * T.length + y < T.length * T.length := by
        have : (x + 1) * T.length ≤ T.length * T.length := Nat.mul_le_mul (by omega) (Nat.le_refl _)
        rw [Nat.add_mul] at this; omega
      have hg := jl_get T (k := T.length * T.length) hy hlt
      have hc : (x : Int) * (T.length : Int) = ((x * T.length : Nat) : Int) := by push_cast; rfl
      have hw1 : IntKind.i64.wrap ((x : Int) * (T.length : Int)) = (x : Int) * (T.length : Int) := by rw [hc, i64_small] <;> omega
      have hw2 : IntKind.i64.wrap ((x : Int) * (T.length : Int) + (y : Int)) = ((x * T.length + y : Nat) : Int) := by rw [hc, i64_small] <;> omega
      obtain ⟨ix, hix⟩ : ∃ ix, ix = x * T.length + y := ⟨_, rfl⟩
      obtain ⟨sq, hsq⟩ : ∃ sq, sq = T.length * T.length := ⟨_, rfl⟩
      rw [← hix] at hg hlt hw2
      rw [← hsq] at hg hlt hj hbox
      have hlt' : (ix : Int) < (sq : Int) := by omega
      have hw3 := i64_small ((jn T x y : Nat) : Int) (by omega) (by have := jn_lt g hx hy; omega)
      simp
      refine AWp.sched [0, 1, 2, 3, 4, 5, 8, 6, 7, 9, 10, 11, 12, 13] Fns.mixed (by decide +kernel) ?_
      simp [hbox]
      refine (len_ok (S1.latAt g)).mono ?_
      rintro v H2 ⟨rfl, rfl⟩
      simp [recheck, hbox, hul, hw1, hw2, hlt', hlt, hj, hg, hw3]
      exact ⟨hst, S1⟩
set_option maxHeartbeats 4000000 in
theorem meet_ok (hT : HasTab R) {T : List (List Bool)} (g : GoodT T) {H : AH} {l p q : Nat} (S : LatSt H l p q T) (a b : Int) :
    ACalls Tryd.prog R 16 [.ptr (.mu l) 0, .int .i64 a, .int .i64 b] H fun v H' => v = .int .i64 (mtI T a b) ∧ Stays l H H' ∧ LatSt H' l p q T := by
  have hL := S.latAt (R := R) g
  have hul : (upT T).length = T.length := upT_len T
  refine ACalls.of_wpE Fns.ok16 (by simp [Fns.a16]) ?_
  unfold mtI
  simp [Fns.a16]
  refine (has_ok hL a).mono ?_
  rintro v H' ⟨rfl, rfl⟩
  rw [hul]
  cases ha : isL T.length a with
  | false => simp; exact ⟨Stays.refl _ _, S⟩
  | true =>
    simp
    refine (has_ok hL b).mono ?_
    rintro v H' ⟨rfl, rfl⟩
    rw [hul]
    cases hb : isL T.length b with
    | false => simp; exact ⟨Stays.refl _ _, S⟩
    | true =>
      obtain ⟨x, rfl, hx⟩ := isL_nat ha
      obtain ⟨y, rfl, hy⟩ := isL_nat hb
      simp
      refine (made_ok hT g S).mono ?_
      rintro v H1 ⟨hst, S1, j, m, hbox, hj, hm⟩
      have hn := g.hi
      have hxn : x * T.length ≤ 63 * 64 := Nat.mul_le_mul (by omega) hn
      have hlt : x * T.length + y < T.length * T.length := by
        have : (x + 1) * T.length ≤ T.length * T.length := Nat.mul_le_mul (by omega) (Nat.le_refl _)
        rw [Nat.add_mul] at this; omega
      have hg := ml_get T (k := T.length * T.length) hy hlt
      have hc : (x : Int) * (T.length : Int) = ((x * T.length : Nat) : Int) := by push_cast; rfl
      have hw1 : IntKind.i64.wrap ((x : Int) * (T.length : Int)) = (x : Int) * (T.length : Int) := by rw [hc, i64_small] <;> omega
      have hw2 : IntKind.i64.wrap ((x : Int) * (T.length : Int) + (y : Int)) = ((x * T.length + y : Nat) : Int) := by rw [hc, i64_small] <;> omega
      obtain ⟨ix, hix⟩ : ∃ ix, ix = x * T.length + y := ⟨_, rfl⟩
      obtain ⟨sq, hsq⟩ : ∃ sq, sq = T.length * T.length := ⟨_, rfl⟩
      rw [← hix] at hg hlt hw2
      rw [← hsq] at hg hlt hm hbox
      have hlt' : (ix : Int) < (sq : Int) := by omega
      have hw3 := i64_small ((mt T x y : Nat) : Int) (by omega) (by have := mt_lt g hx hy; omega)
      simp
      refine AWp.sched [0, 1, 2, 3, 4, 5, 8, 6, 7, 9, 10, 11, 12, 13] Fns.mixed (by decide +kernel) ?_
      simp [hbox]
      refine (len_ok (S1.latAt g)).mono ?_
      rintro v H2 ⟨rfl, rfl⟩
      simp [recheck, hbox, hul, hw1, hw2, hlt', hlt, hm, hg, hw3]
      exact ⟨hst, S1⟩
theorem over_ok {T : List (List Bool)} (g : GoodT T) {H : AH} {l p q : Nat} (S : LatSt H l p q T) (f : Nat) (hb : bodied Tryd.prog f = true) (F : Nat → Nat → Nat) (hF : ∀ a b, a < T.length → b < T.length → F a b < T.length)
    (hc : ∀ (H : AH) (a b : Nat), LatSt H l p q T → a < T.length → b < T.length → ACalls Tryd.prog R f [.ptr (.mu l) 0, .int .i64 a, .int .i64 b] H fun v H' => v = .int .i64 (F a b : Nat) ∧ Stays l H H' ∧ LatSt H' l p q T) :
    ACalls Tryd.prog R 25 [.ptr (.mu l) 0, .fn (.func f) [.ptr (.mu l) 0] []] H fun v H' => v = .int .i64 (foldK F T.length T.length : Nat) ∧ Stays l H H' ∧ LatSt H' l p q T := by
  refine ACalls.of_wpE Fns.ok25 (by simp [Fns.a25]) ?_
  have hn := g.hi
  have hn1 := g.lo
  have hul : (upT T).length = T.length := upT_len T
  simp [Fns.a25]
  refine (len_ok (S.latAt g)).mono ?_
  rintro v H' ⟨rfl, rfl⟩
  rw [hul]
  have hw0 : IntKind.i64.wrap ((T.length : Int) - 1) = ((T.length - 1 : Nat) : Int) := by rw [i64_small] <;> omega
  simp [hw0]
  refine (len_ok (S.latAt g)).mono ?_
  rintro v H' ⟨rfl, rfl⟩
  rw [hul]
  simp
  refine AWp.loop (fun e H1 => e 0 = .ptr (.mu l) 0 ∧ e 1 = .fn (.func f) [.ptr (.mu l) 0] [] ∧ e 11 = .int .i64 T.length ∧ Stays l H' H1 ∧ LatSt H1 l p q T ∧ ∃ a : Nat, e 12 = .int .i64 a ∧ a ≤ T.length ∧ e 5 = .int .i64 (foldK F T.length a : Nat))
    (fun e _ => match e 12 with | .int _ i => ((T.length : Int) - i).toNat | _ => 0) ⟨by simp, by simp, by simp, Stays.refl _ _, S, 0, by simp, by omega, by simp [foldK]⟩ ?_
  rintro e H1 ⟨h0, h1, h11, hst, S1, a, h12, ha, h5⟩
  refine wpE_sound _ ?_
  by_cases hal : a < T.length
  · have hal' : (a : Int) < (T.length : Int) := by omega
    have hw1 := i64_small ((a : Int) + 1) (by omega) (by omega)
    simp [h0, h1, h5, h11, h12, hal, hal', fnArgs, hb]
    refine (hc H1 _ a S1 (foldK_lt (by omega) hF a (by omega)) hal).mono ?_
    rintro v H2 ⟨rfl, hst2, S2⟩
    simp [h0, h1, h11, h12, hw1]
    refine ⟨⟨hst.trans hst2, S2, a + 1, by simp, by omega, ?_⟩, by omega⟩
    unfold foldK
    rw [List.range_succ, List.foldl_append]; rfl
  · obtain rfl : a = T.length := by omega
    simp [h0, h5, h11, h12]
    exact ⟨hst, S1⟩
theorem isL_of {n x : Nat} (h : x < n) : isL n x = true := by simp [isL]; omega
theorem top_ok (hT : HasTab R) {T : List (List Bool)} (g : GoodT T) {H : AH} {l p q : Nat} (S : LatSt H l p q T) : ACalls Tryd.prog R 13 [.ptr (.mu l) 0] H fun v H' => v = .int .i64 (tp T : Nat) ∧ Stays l H H' ∧ LatSt H' l p q T := by
  refine ACalls.of_wpE Fns.ok13 (by simp [Fns.a13]) ?_
  simp [Fns.a13]
  refine (over_ok g S 15 (by kernel_rfl) (jn T) (fun a b ha hb => jn_lt g ha hb) (fun H a b S ha hb => (join_ok hT g S a b).mono ?_)).mono ?_
  · rintro v H' ⟨rfl, h⟩
    exact ⟨by simp [jnI, isL_of ha, isL_of hb], h⟩
  · rintro v H' ⟨rfl, h⟩
    simp
    exact ⟨rfl, h⟩
theorem bottom_ok (hT : HasTab R) {T : List (List Bool)} (g : GoodT T) {H : AH} {l p q : Nat} (S : LatSt H l p q T) : ACalls Tryd.prog R 14 [.ptr (.mu l) 0] H fun v H' => v = .int .i64 (bt T : Nat) ∧ Stays l H H' ∧ LatSt H' l p q T := by
  refine ACalls.of_wpE Fns.ok14 (by simp [Fns.a14]) ?_
  simp [Fns.a14]
  refine (over_ok g S 16 (by kernel_rfl) (mt T) (fun a b ha hb => mt_lt g ha hb) (fun H a b S ha hb => (meet_ok hT g S a b).mono ?_)).mono ?_
  · rintro v H' ⟨rfl, h⟩
    exact ⟨by simp [mtI, isL_of ha, isL_of hb], h⟩
  · rintro v H' ⟨rfl, h⟩
    simp
    exact ⟨rfl, h⟩
end Go.Proofs.YtjglohfkpigdfaaDoor.Latt
