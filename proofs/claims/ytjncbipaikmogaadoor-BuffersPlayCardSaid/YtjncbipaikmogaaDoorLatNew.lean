/- A lattice out of a table. -/
import Derived.Test.YtjncbipaikmogaaDoorLatTab
import Derived.Test.YtjncbipaikmogaaDoorAmApp
namespace Go.Proofs.YtjncbipaikmogaaDoor.Latt
open Go Go.RowKit Am
set_option maxRecDepth 100000
set_option linter.unusedSimpArgs false
set_option linter.unusedVariables false
attribute [-simp] Am.binEv Am.intBin Am.read1
attribute [local simp] binEv_lss binEv_leq binEv_gtr binEv_geq binEv_eql binEv_neq binEv_add binEv_sub binEv_mul binEv_shr58 read1_ro read1_mu
variable {R : Ro}
/-- A lattice, and the blocks that are its own. -/
structure LatIn (H : AH) (l p q : Nat) (up dn : List Nat) : Prop where
  box : H[l]? = some (.cells [.slice (.mu p) 0 up.length (.known up.length), .slice (.mu q) 0 up.length (.known up.length), .int .u32 0, .int .i32 0, .int .u32 0, .nilslice, .nilslice] 76)
  pu : H[p]? = some (.cells (up.map u64v) 77)
  qd : H[q]? = some (.cells (dn.map u64v) 77)
  len : dn.length = up.length
  dis : p ≠ l ∧ q ≠ l
theorem sees_cells {H : AH} {p n : Nat} {c : List AV} {t : TypeId} {cap : Cap} (h : H[p]? = some (.cells c t)) (hn : n = c.length) : Sees R H (.slice (.mu p) 0 n cap) c := by
  subst hn
  exact .inr ⟨.mu p, 0, cap, rfl, fun i x hx => by rw [read1_mu, h]; simpa using hx⟩
theorem LatIn.at {H : AH} {l p q : Nat} {T : List (List Bool)} (h : LatIn H l p q (upT T) (dnT T)) (h1 : 1 ≤ T.length) (h2 : T.length ≤ 64) : LatAt R H l (upT T) (dnT T) := by
  have hb := h.box
  refine ⟨⟨_, _, _, hb, sees_cells h.pu (by simp), sees_cells h.qd (by simp [h.len])⟩, by rw [upT_len]; exact h1, h.len, by rw [upT_len]; exact h2, fun x j hj => ?_, fun x j hj => ?_⟩
  · rw [upT_test] at hj; simp at hj; rw [upT_len]; exact hj.1.2
  · rw [dnT_test] at hj; simp at hj; rw [upT_len]; exact hj.1.2
theorem LatIn.frame {H H' : AH} {l p q : Nat} {up dn : List Nat} (h : LatIn H l p q up dn) (hf : ∀ i, i = l ∨ i = p ∨ i = q → H'[i]? = H[i]?) : LatIn H' l p q up dn := by
  exact ⟨by rw [hf l (.inl rfl)]; exact h.box, by rw [hf p (.inr (.inl rfl))]; exact h.pu, by rw [hf q (.inr (.inr rfl))]; exact h.qd, h.len, h.dis⟩
/-- While it is being made. -/
structure Wk (H0 H : AH) (l p q n : Nat) (U D : List Nat) : Prop where
  box : H[l]? = some (.cells [.slice (.mu p) 0 n (.known n), .slice (.mu q) 0 n (.known n), .int .u32 0, .int .i32 0, .int .u32 0, .nilslice, .nilslice] 76)
  pu : H[p]? = some (.cells (U.map u64v) 77)
  qd : H[q]? = some (.cells (D.map u64v) 77)
  ul : U.length = n
  dl : D.length = n
  keeps : Keeps H0 H
  low : H0.length ≤ l ∧ H0.length ≤ p ∧ H0.length ≤ q
  ne : p ≠ q ∧ p ≠ l ∧ q ≠ l
theorem Wk.setU {H0 H : AH} {l p q n : Nat} {U D : List Nat} (h : Wk H0 H l p q n U D) (U' : List Nat) (hl : U'.length = n) : Wk H0 (H.set p (.cells (U'.map u64v) 77)) l p q n U' D := by
  have hp := (List.getElem?_eq_some_iff.1 h.pu).1
  exact ⟨by rw [List.getElem?_set, if_neg h.ne.2.1]; exact h.box, by rw [List.getElem?_set, if_pos rfl, if_pos hp], by rw [List.getElem?_set, if_neg h.ne.1]; exact h.qd, hl, h.dl, h.keeps.set h.low.2.1 _, h.low, h.ne⟩
theorem Wk.setD {H0 H : AH} {l p q n : Nat} {U D : List Nat} (h : Wk H0 H l p q n U D) (D' : List Nat) (hl : D'.length = n) : Wk H0 (H.set q (.cells (D'.map u64v) 77)) l p q n U D' := by
  have hq := (List.getElem?_eq_some_iff.1 h.qd).1
  exact ⟨by rw [List.getElem?_set, if_neg h.ne.2.2]; exact h.box, by rw [List.getElem?_set, if_neg (Ne.symm h.ne.1)]; exact h.pu, by rw [List.getElem?_set, if_pos rfl, if_pos hq], h.ul, hl, h.keeps.set h.low.2.2 _, h.low, h.ne⟩
theorem Wk.inn {H0 H : AH} {l p q n : Nat} {U D : List Nat} (h : Wk H0 H l p q n U D) : LatIn H l p q U D := ⟨by rw [h.ul]; exact h.box, h.pu, h.qd, by rw [h.ul, h.dl], h.ne.2⟩
/-- A row as it lies there; or an empty one, whatever its address. -/
def RowS (R : Ro) (H : AH) (v : AV) (f : List AV) : Prop := Sees R H v f ∨ (f = [] ∧ ∃ A c, v = .raw (.slice A 0 c))
theorem RowS.frame {H H' : AH} {v : AV} {f : List AV} (h : RowS R H v f) (hf : ∀ i, i < H.length → H'[i]? = H[i]?) : RowS R H' v f := by
  rcases h with h | h
  · exact .inl (h.frame hf)
  · exact .inr h
/-- The table, as it lies there. -/
structure TabIn (R : Ro) (H : AH) (tv : AV) (T : List (List Bool)) : Prop where
  rows : ∃ rows, Sees R H tv rows ∧ rows.length = T.length ∧ ∀ (i : Nat) r, T[i]? = some r → ∃ v, rows[i]? = some v ∧ RowS R H v (r.map AV.bool)
/-- What bars a table. -/
def errT (T : List (List Bool)) : Int := if T.length < 1 ∨ 64 < T.length then 3 else if T.all (fun r => decide (r.length = T.length)) then 1 else 8
theorem errT_ne (T : List (List Bool)) : errT T ≠ 0 := by unfold errT; split <;> (try split) <;> decide
theorem errT3 {T : List (List Bool)} (h : T.length < 1 ∨ 64 < T.length) : errT T = 3 := if_pos h
theorem errT8 {T : List (List Bool)} (h1 : 1 ≤ T.length) (h2 : T.length ≤ 64) {r : List Bool} (hr : r ∈ T) (h : ¬ r.length = T.length) : errT T = 8 := by
  unfold errT; rw [if_neg (by omega), if_neg]
  simp only [List.all_eq_true, decide_eq_true_eq]
  exact fun ha => h (ha r hr)
theorem errT1 {T : List (List Bool)} (h1 : 1 ≤ T.length) (h2 : T.length ≤ 64) (h : ∀ r ∈ T, r.length = T.length) : errT T = 1 := by
  unfold errT; rw [if_neg (by omega), if_pos]
  simp only [List.all_eq_true, decide_eq_true_eq]
  exact h
def NewPost (R : Ro) (T : List (List Bool)) (H : AH) (v : AV) (H' : AH) : Prop := Keeps H H' ∧ ((GoodT T ∧ ∃ l p q, v = .tuple [.ptr (.mu l) 0, .int .i64 0] ∧ LatIn H' l p q (upT T) (dnT T) ∧ H.length ≤ l ∧ H.length ≤ p ∧ H.length ≤ q) ∨ (¬ GoodT T ∧ v = .tuple [.nilptr, .int .i64 (errT T)]))
def sndC : AC → AC
  | .seq _ b => b
  | c => c
theorem i64_small (z : Int) (h1 : -4611686018427387904 ≤ z) (h2 : z ≤ 4611686018427387904) : IntKind.i64.wrap z = z :=
  wrap_small .i64 z (by simp only [mx]; omega) (by simp only [neg?, mx, if_true]; omega)
theorem writeN_cells {H : AH} {p : Nat} {U : List Nat} {t : TypeId} (h : H[p]? = some (.cells (U.map u64v) t)) {i : Nat} (hi : i < U.length) (x : Nat) : writeN H p i [.int .u64 (x : Int)] = some (H.set p (.cells ((U.set i x).map u64v) t)) := by
  unfold writeN
  rw [h]
  have e : splice (U.map u64v) i [AV.int .u64 (x : Int)] = (U.set i x).map u64v := by
    rw [splice_one (by simpa using hi), List.map_set]; rfl
  simp only [AO.content, AO.withContent, e]
  have hi' : i + 1 ≤ U.length := hi
  simp [AV.oneCell, hi']
theorem Wk.orU {H0 H : AH} {l p q n : Nat} {D : List Nat} {T : List (List Bool)} {a b s : Nat} (h : Wk H0 H l p q n (upAt T n a b) D) (ha : a < n) (ht : tb T a b = true) (hs : s = 2 ^ b) :
    writeN H p a [.int .u64 ((at' (upAt T n a b) a ||| s : Nat) : Int)] = some (H.set p (.cells ((upAt T n a (b + 1)).map u64v) 77)) := by
  rw [writeN_cells h.pu (by rw [h.ul]; exact ha)]
  have := upAt_step (T := T) (b := b) ha
  rw [ht, if_pos rfl] at this
  rw [hs, this]
theorem Wk.orD {H0 H : AH} {l p q n : Nat} {U : List Nat} {T : List (List Bool)} {a b s : Nat} (h : Wk H0 H l p q n U (dnAt T n a b)) (hb : b < n) (ht : tb T a b = true) (hs : s = 2 ^ a) :
    writeN H q b [.int .u64 ((at' (dnAt T n a b) b ||| s : Nat) : Int)] = some (H.set q (.cells ((dnAt T n a (b + 1)).map u64v) 77)) := by
  rw [writeN_cells h.qd (by rw [h.dl]; exact hb)]
  have := dnAt_step (T := T) (a := a) hb
  rw [ht, if_pos rfl] at this
  rw [hs, this]
theorem Wk.rdU {H0 H : AH} {l p q n : Nat} {U D : List Nat} (h : Wk H0 H l p q n U D) {x : Nat} (hx : x < n) : (U.map u64v)[x]? = some (.int .u64 (at' U x : Nat)) := at'_map (by rw [h.ul]; exact hx)
theorem Wk.rdD {H0 H : AH} {l p q n : Nat} {U D : List Nat} (h : Wk H0 H l p q n U D) {x : Nat} (hx : x < n) : (D.map u64v)[x]? = some (.int .u64 (at' D x : Nat)) := at'_map (by rw [h.dl]; exact hx)
theorem upAt_lt (T : List (List Bool)) {n : Nat} (a b : Nat) {x : Nat} (hx : x < n) (hn : n ≤ 64) (hb : b ≤ 64) : at' (upAt T n a b) x < M64 := by
  rw [upAt_at T a b hx]
  refine bitsOf_lt _ ?_
  split
  · exact hn
  · split <;> omega
theorem dnAt_lt (T : List (List Bool)) {n : Nat} (a b : Nat) {x : Nat} (hx : x < n) (ha : a < 64) : at' (dnAt T n a b) x < M64 := by
  rw [dnAt_at T a b hx]
  refine bitsOf_lt _ ?_
  split <;> omega
set_option maxHeartbeats 4000000 in
theorem newTail (hT : HasTab R) (H Hc : AH) (T : List (List Bool)) (l p q : Nat) (lt : Am.Loc) (offt : Nat) (capt : Cap) (rows : List AV) (e : Env) (h1 : 1 ≤ T.length) (h2 : T.length ≤ 64)
    (hrl : rows.length = T.length) (hread : ∀ (i : Nat) x, rows[i]? = some x → read1 R H lt (offt + i) = some x) (hr : ∀ (i : Nat) r, T[i]? = some r → ∃ v, rows[i]? = some v ∧ RowS R H v (r.map AV.bool))
    (hW : Wk H Hc l p q T.length (upAt T T.length 0 0) (dnAt T T.length 0 0)) (h0 : e 0 = .slice lt offt T.length capt) (he4 : e 4 = .int .i64 T.length) (he5 : e 5 = .ptr (.mu l) 0) :
    wpE Tryd.prog R 127 (sndC (sndC (sndC (sndC Fns.a9.body)))) (QRet R Fns.a9.res (NewPost R T H)) e Hc := by
  have hn1 : ((T.length : Int)) ≤ 64 := by omega
  simp [Fns.a9, sndC, h0, he4, he5]
  have seeT : Sees R H (.slice lt offt T.length capt) rows := .inr ⟨lt, offt, capt, by rw [hrl], hread⟩
  refine AWp.loop (fun e H' => e 4 = .int .i64 T.length ∧ e 5 = .ptr (.mu l) 0 ∧ e 26 = .slice lt offt T.length capt ∧ e 27 = .int .i64 T.length ∧ ∃ i : Nat, e 28 = .int .i64 i ∧ i ≤ T.length ∧ Wk H H' l p q T.length (upAt T T.length i 0) (dnAt T T.length i 0) ∧ ∀ (x : Nat) r, x < i → T[x]? = some r → r.length = T.length)
    (fun e _ => match e 28 with | .int _ i => ((T.length : Int) - i).toNat | _ => 0) ⟨by simp [he4], by simp [he5], by simp, by simp, 0, rfl, by omega, hW, fun x r h => absurd h (by omega)⟩ ?_
  rintro e H1 ⟨h4, h5, h26, h27, i, h28, hi, hW, hrows⟩
  refine wpE_sound _ ?_
  by_cases hlt : i < T.length
  · have hlt' : (i : Int) < (T.length : Int) := by omega
    have hw1 := i64_small ((i : Int) + 1) (by omega) (by omega)
    obtain ⟨r, hri⟩ : ∃ r, T[i]? = some r := ⟨_, List.getElem?_eq_getElem hlt⟩
    obtain ⟨rv, hrv, hsee⟩ := hr i r hri
    have hse1 := seeT.frame hW.keeps.2
    have hrd : read1 R H1 lt (offt + i) = some rv := by
      rcases hse1 with ⟨h, _⟩ | ⟨_, _, _, h, hh⟩
      · cases h
      · simp only [AV.slice.injEq] at h
        obtain ⟨rfl, rfl, _, rfl⟩ := h
        exact hh i rv hrv
    rcases hsee with hsee | ⟨hnil, A0, c0, rfl⟩
    rotate_left
    · have hrn : r = [] := by simpa using hnil
      subst hrn
      have hrlen : ¬ ([] : List Bool).length = T.length := by simp; omega
      have hng : ¬ GoodT T := fun g => hrlen (g.rows [] (List.mem_of_getElem? hri))
      have hz : ¬ (0 : Int) = (T.length : Int) := by omega
      simp [h4, h5, h26, h27, h28, hlt', hlt, hrd, hz]
      exact ⟨hW.keeps, .inr ⟨hng, by rw [errT8 h1 h2 (List.mem_of_getElem? hri) hrlen]⟩⟩
    have hsee1 := hsee.frame hW.keeps.2
    by_cases hrlen : r.length = T.length
    · rcases hsee1.lenL with ⟨_, hn⟩ | ⟨l3, off3, cap3, rfl⟩
      · simp at hn; subst hn; simp at hrlen; omega
      have hlr : (r.map AV.bool).length = T.length := by simpa using hrlen
      have hrlen' : ((r.length : Int) = (T.length : Int)) := by omega
      simp [h4, h5, h26, h27, h28, hlt', hlt, hrd, hrlen, hrlen']
      refine AWp.loop (fun e H' => e 4 = .int .i64 T.length ∧ e 5 = .ptr (.mu l) 0 ∧ e 6 = .int .i64 i ∧ e 26 = .slice lt offt T.length capt ∧ e 27 = .int .i64 T.length ∧ e 28 = .int .i64 i ∧ e 37 = .slice l3 off3 T.length cap3 ∧ e 38 = .int .i64 T.length ∧ ∃ j : Nat, e 39 = .int .i64 j ∧ j ≤ T.length ∧ Wk H H' l p q T.length (upAt T T.length i j) (dnAt T T.length i j))
        (fun e _ => match e 39 with | .int _ i => ((T.length : Int) - i).toNat | _ => 0) ⟨by simp [h4], by simp [h5], by simp, by simp [h26], by simp [h27], by simp [h28], by simp [hrlen], by simp [hrlen], 0, by simp, by omega, hW⟩ ?_
      rintro e H2 ⟨h4, h5, h6, h26, h27, h28, h37, h38, j, h39, hj, hW⟩
      refine wpE_sound _ ?_
      by_cases hjl : j < T.length
      · have hjl' : (j : Int) < (T.length : Int) := by omega
        have hw2 := i64_small ((j : Int) + 1) (by omega) (by omega)
        have hsee2 := hsee.frame hW.keeps.2
        have hrd2 : read1 R H2 l3 (off3 + j) = some (.bool (tb T i j)) := by
          rcases hsee2 with ⟨h, _⟩ | ⟨_, _, _, h, hh⟩
          · cases h
          · simp only [AV.slice.injEq] at h
            obtain ⟨rfl, rfl, _, rfl⟩ := h
            have hjr : j < r.length := by omega
            exact hh j _ (by rw [List.getElem?_map, List.getElem?_eq_getElem hjr]; simp [tb, hri, hjr])
        cases htb : tb T i j with
        | true =>
          rw [htb] at hrd2
          obtain ⟨s2, hs2, hs2l, hpow⟩ := binEv_pow j (by omega)
          obtain ⟨s3, hs3, hs3l, hpow3⟩ := binEv_pow i (by omega)
          have hor := binEv_or64 (at' (upAt T T.length i j) i) s2 (upAt_lt T _ _ hlt h2 (by omega)) hs2l
          have hor3 := binEv_or64 (at' (dnAt T T.length i j) j) s3 (dnAt_lt T _ _ hjl (by omega)) hs3l
          have hwr := hW.orU hlt htb hs2
          have hru := hW.rdU hlt
          have hW2 := hW.setU (upAt T T.length i (j + 1)) (upAt_len ..)
          have hwr3 := hW2.orD hjl htb hs3
          have hrd3 := hW2.rdD hjl
          have hW3 := hW2.setD (dnAt T T.length i (j + 1)) (dnAt_len ..)
          simp [h4, h5, h6, h37, h38, h39, hjl', hjl, hrd2]
          refine AWp.sched [0, 1, 2, 3, 4, 5, 6, 7, 8, 9, 10, 11] Fns.mixed (by decide +kernel) ?_
          simp [h4, h5, h6, h37, h38, h39, hjl', hjl, hrd2, hW.box, hW.pu, hru, hpow, hor, hwr, hlt, hlt', recheck]
          refine AWp.sched [0, 1, 2, 3, 4, 5, 6, 7, 8, 9, 10, 11] Fns.mixed (by decide +kernel) ?_
          simp [h4, h5, h6, h37, h38, h39, hjl', hjl, hW2.box, hW2.qd, hrd3, hpow3, hor3, hwr3, hlt, hlt', recheck, hw2]
          exact ⟨⟨h26, h27, h28, j + 1, by simp, by omega, hW3⟩, by omega⟩
        | false =>
          rw [htb] at hrd2
          simp [h4, h5, h6, h37, h38, h39, hjl', hjl, hrd2, hw2]
          exact ⟨⟨h26, h27, h28, j + 1, by simp, by omega, by rw [← upAt_skip hlt htb, ← dnAt_skip hjl htb]; exact hW⟩, by omega⟩
      · obtain rfl : j = T.length := by omega
        rw [upAt_row, dnAt_row] at hW
        simp [h4, h5, h6, h26, h27, h28, h37, h38, h39, hw1]
        refine ⟨⟨i + 1, by simp, by omega, hW, fun x r' hx hr' => ?_⟩, by omega⟩
        by_cases hxi : x = i
        · subst hxi; rw [hri] at hr'; cases hr'; exact hrlen
        · exact hrows x r' (by omega) hr'
    · have hng : ¬ GoodT T := fun g => hrlen (g.rows r (List.mem_of_getElem? hri))
      have hrlen' : ¬ ((r.length : Int) = (T.length : Int)) := by omega
      rcases hsee1.lenL with ⟨rfl, hn⟩ | ⟨l3, off3, cap3, rfl⟩
      · simp at hn; subst hn
        have hz : ¬ (0 : Int) = (T.length : Int) := by omega
        simp [h4, h5, h26, h27, h28, hlt', hlt, hrd, hz]
        exact ⟨hW.keeps, .inr ⟨hng, by rw [errT8 h1 h2 (List.mem_of_getElem? hri) hrlen]⟩⟩
      · simp [h4, h5, h26, h27, h28, hlt', hlt, hrd, hrlen, hrlen']
        exact ⟨hW.keeps, .inr ⟨hng, by rw [errT8 h1 h2 (List.mem_of_getElem? hri) hrlen]⟩⟩
  · obtain rfl : i = T.length := by omega
    have hin : LatIn H1 l p q (upT T) (dnT T) := hW.inn
    have hrw : ∀ r ∈ T, r.length = T.length := by
      intro r hr
      obtain ⟨x, hx, rfl⟩ := List.mem_iff_getElem.1 hr
      exact hrows x _ hx (List.getElem?_eq_getElem hx)
    have hL := hin.at (R := R) h1 h2
    have hWB := hW.box
    simp [h4, h5, h26, h27, h28]
    refine (order_ok hT H1 l _ _ hL).mono ?_
    rintro v H2 ⟨rfl, b, rfl, hb⟩
    rw [upT_len] at hb
    cases b with
    | false =>
      have hng : ¬ GoodT T := fun g => by have := hb.2 g.ord; cases this
      simp
      exact ⟨hW.keeps, .inr ⟨hng, by rw [errT1 h1 h2 hrw]⟩⟩
    | true =>
      have hord := hb.1 rfl
      simp [h4, h5]
      refine AWp.loop (fun e H' => H' = H2 ∧ e 5 = .ptr (.mu l) 0 ∧ e 72 = .int .i64 T.length ∧ ∃ a : Nat, e 73 = .int .i64 a ∧ a ≤ T.length ∧ ∀ x, x < a → ∀ y, y < x → BestAt (upT T) (dnT T) x y)
        (fun e _ => match e 73 with | .int _ i => ((T.length : Int) - i).toNat | _ => 0) ⟨rfl, by simp [h5], by simp, 0, rfl, by omega, fun x h => absurd h (by omega)⟩ ?_
      rintro e H3 ⟨rfl, h5, h72, a, h73, ha, hbest⟩
      refine wpE_sound _ ?_
      by_cases hal : a < T.length
      · have hal' : (a : Int) < (T.length : Int) := by omega
        have hw1 := i64_small ((a : Int) + 1) (by omega) (by omega)
        simp [h5, h72, h73, hal, hal']
        refine AWp.loop (fun e H' => H' = H3 ∧ e 5 = .ptr (.mu l) 0 ∧ e 10 = .int .i64 a ∧ e 72 = .int .i64 T.length ∧ e 73 = .int .i64 a ∧ e 76 = .int .i64 a ∧ ∃ b : Nat, e 77 = .int .i64 b ∧ b ≤ a ∧ ∀ y, y < b → BestAt (upT T) (dnT T) a y)
          (fun e _ => match e 77 with | .int _ i => ((a : Int) - i).toNat | _ => 0) ⟨rfl, by simp [h5], by simp, by simp [h72], by simp [h73], by simp, 0, by simp, by omega, fun x h => absurd h (by omega)⟩ ?_
        rintro e H4 ⟨rfl, h5, h10, h72, h73, h76, b, h77, hb, hbest2⟩
        refine wpE_sound _ ?_
        by_cases hbl : b < a
        · have hbl' : (b : Int) < (a : Int) := by omega
          have hbn : b < T.length := by omega
          have hbn' : (b : Int) < (T.length : Int) := by omega
          have hw2 := i64_small ((b : Int) + 1) (by omega) (by omega)
          have hpu := hin.pu
          have hqd := hin.qd
          have hua : ((upT T).map u64v)[a]? = some (.int .u64 (at' (upT T) a : Nat)) := at'_map (by rw [upT_len]; exact hal)
          have hub : ((upT T).map u64v)[b]? = some (.int .u64 (at' (upT T) b : Nat)) := at'_map (by rw [upT_len]; exact hbn)
          have hda : ((dnT T).map u64v)[a]? = some (.int .u64 (at' (dnT T) a : Nat)) := at'_map (by rw [dnT_len]; exact hal)
          have hdb : ((dnT T).map u64v)[b]? = some (.int .u64 (at' (dnT T) b : Nat)) := at'_map (by rw [dnT_len]; exact hbn)
          have hul := lt64_of_bits (hL.bup a) hL.le
          have hul2 := lt64_of_bits (hL.bup b) hL.le
          have hdl := lt64_of_bits (hL.bdn a) hL.le
          have hdl2 := lt64_of_bits (hL.bdn b) hL.le
          have hand := binEv_and64 _ _ hul hul2
          have hand2 := binEv_and64 _ _ hdl hdl2
          have hofu : ∀ x ∈ upT T, x < M64 := by
            intro x hx
            obtain ⟨k, hk, rfl⟩ := List.mem_iff_getElem.1 hx
            rw [← at'_lt hk]; exact lt64_of_bits (hL.bup k) hL.le
          have hofd : ∀ x ∈ dnT T, x < M64 := by
            intro x hx
            obtain ⟨k, hk, rfl⟩ := List.mem_iff_getElem.1 hx
            rw [← at'_lt hk]; exact lt64_of_bits (hL.bdn k) hL.le
          have hb1 := best_ok hT H4 (at' (upT T) a &&& at' (upT T) b) (and_lt64 _ _ hul) (upT T) hofu _ (sees_cells hin.pu (n := T.length) (cap := .known T.length) (by simp [upT_len])) (fun j hj => by rw [Nat.testBit_and] at hj; simp at hj; exact hL.bup _ _ hj.1)
          have hb2 := best_ok hT H4 (at' (dnT T) a &&& at' (dnT T) b) (and_lt64 _ _ hdl) (dnT T) hofd _ (sees_cells hin.qd (n := T.length) (cap := .known T.length) (by simp [dnT_len])) (fun j hj => by rw [Nat.testBit_and] at hj; simp at hj; rw [dnT_len, ← upT_len]; exact hL.bdn _ _ hj.1)
          simp [h5, h10, h72, h73, h76, h77, hbl, hbl']
          refine AWp.sched [0, 1, 2, 3, 4, 5, 6, 7, 8, 9, 10, 11, 12, 13, 14, 15, 16, 17, 18, 19, 20, 21, 22, 23, 24, 25, 26, 27, 28, 29, 30, 31, 32, 33, 34, 35, 36, 37, 38, 39, 40, 41, 42, 43] Fns.mixed (by decide +kernel) ?_
          simp [h5, h10, h72, h73, h76, h77, hbl, hbl', hal, hal', hbn, hbn', hWB, hpu, hqd, hua, hub, hand, recheck]
          refine hb1.mono ?_
          rintro v H5 ⟨rfl, hv⟩
          rcases hv with ⟨rfl, hno⟩ | ⟨x, rfl, hx1, hx2⟩
          · have hng : ¬ GoodT T := fun g => by
              obtain ⟨⟨i, hi1, hi2⟩, _⟩ := g.best a hal b hbl
              exact hno i hi1 hi2
            simp [recheck]
            exact ⟨hW.keeps, .inr ⟨hng, by rw [errT1 h1 h2 hrw]⟩⟩
          · have hx0 : ¬ ((x : Int) < 0) := by omega
            simp [h5, h10, h72, h73, h76, h77, hx0, hal, hal', hbn, hbn', hWB, hpu, hqd, hda, hdb, hand2, recheck]
            refine hb2.mono ?_
            rintro v H6 ⟨rfl, hv⟩
            rcases hv with ⟨rfl, hno⟩ | ⟨y, rfl, hy1, hy2⟩
            · have hng : ¬ GoodT T := fun g => by
                obtain ⟨_, i, hi1, hi2⟩ := g.best a hal b hbl
                exact hno i hi1 hi2
              simp [recheck]
              exact ⟨hW.keeps, .inr ⟨hng, by rw [errT1 h1 h2 hrw]⟩⟩
            · have hy0 : ¬ ((y : Int) < 0) := by omega
              simp [h5, h10, h72, h73, h76, h77, hy0, recheck, hw2]
              refine ⟨⟨b + 1, by simp, by omega, fun z hz => ?_⟩, by omega⟩
              by_cases hzb : z = b
              · subst hzb; exact ⟨⟨x, hx1, hx2⟩, y, hy1, hy2⟩
              · exact hbest2 z (by omega)
        · obtain rfl : b = a := by omega
          simp [h5, h10, h72, h73, h76, h77, hw1]
          refine ⟨⟨b + 1, by simp, by omega, fun z hz => ?_⟩, by omega⟩
          by_cases hzb : z = b
          · subst hzb; exact hbest2
          · exact hbest z (by omega)
      · obtain rfl : a = T.length := by omega
        simp [h5, h72, h73]
        exact ⟨hW.keeps, .inl ⟨⟨h1, h2, hrw, hord, hbest⟩, l, p, q, rfl, hin, hW.low⟩⟩
set_option maxHeartbeats 4000000 in
theorem new_ok (hT : HasTab R) (H : AH) (tv : AV) (T : List (List Bool)) (ht : TabIn R H tv T) (hmax : T.length ≤ 9223372036854775807) : ACalls Tryd.prog R 9 [tv] H fun v H' => NewPost R T H v H' := by
  obtain ⟨rows, hrows, hrl, hr⟩ := ht
  refine ACalls.of_wpE Fns.ok9 (by simp [Fns.a9]) ?_
  have hlen : (AOp.lenL (.t 12)).eval Tryd.prog R (((((env0 [tv]).upd 2 .nilptr).upd 3 (.int .i64 0)).upd 12 tv)) H = some (.int .i64 T.length, H) := by
    rcases hrows.lenL with ⟨rfl, hn⟩ | ⟨l, off, cap, rfl⟩
    · have : T = [] := List.length_eq_zero_iff.1 (by rw [← hrl, hn]; rfl)
      subst this; simp
    · simp [hrl]
  by_cases h1 : T.length < 1
  · have hng : ¬ GoodT T := fun g => by have := g.lo; omega
    rcases hrows.lenL with ⟨rfl, hn⟩ | ⟨l, off, cap, rfl⟩
    · simp [Fns.a9]
      exact ⟨Keeps.refl _, .inr ⟨hng, by rw [errT3 (.inl h1)]⟩⟩
    · have e0 : rows.length = 0 := by omega
      simp [Fns.a9, e0]
      exact ⟨Keeps.refl _, .inr ⟨hng, by rw [errT3 (.inl h1)]⟩⟩
  have hpos : 0 < T.length := by omega
  rcases hrows with ⟨_, hnil⟩ | ⟨lt, offt, capt, rfl, hread⟩
  · rw [hnil] at hrl; simp at hrl; omega
  rw [hrl]
  have h1' : ¬ ((T.length : Int) < 1) := by omega
  by_cases h2 : 64 < T.length
  · have hng : ¬ GoodT T := fun g => by have := g.hi; omega
    have h2' : (64 : Int) < (T.length : Int) := by omega
    simp [Fns.a9, h1, h1', h2', h2]
    exact ⟨Keeps.refl _, .inr ⟨hng, by rw [errT3 (.inr h2)]⟩⟩
  have h2' : ¬ ((64 : Int) < (T.length : Int)) := by omega
  have hz : T ≠ [] := List.length_pos_iff.1 hpos
  simp [Fns.a9, h1, h1', h2', h2, hz]
  refine AWp.tree (.one 0 (.one 2 (.two 1 3 (.one 3 (.one 4 (.one 5 (.one 6 .nil)))) (.one 1 (.one 4 (.one 5 (.one 6 .nil))))))) Fns.mixed (by decide +kernel) ?_
  have hz8 : 8 * (T.length : Int) ≤ 281474976710656 := by omega
  have hz9 : (T.length : Int) ≤ 9223372036854775807 := by omega
  have hzu : (upAt T T.length 0 0).map u64v = zerosEv [.int .u64 0] T.length := by rw [upAt_zero, zerosEv_one, List.map_replicate]; rfl
  have hzd : (dnAt T T.length 0 0).map u64v = zerosEv [.int .u64 0] T.length := by rw [dnAt_zero, zerosEv_one, List.map_replicate]; rfl
  simp [AV.oneCell, fillA, splice, hz8, hz9, -wpE_seq]
  refine ⟨newTail hT H _ T (H.length + 2) H.length (H.length + 1) lt offt capt rows _ hpos (by omega) hrl hread hr ⟨?_, ?_, ?_, upAt_len .., dnAt_len .., Keeps.app _ _, by omega, by omega⟩ (by simp) (by simp) (by simp), newTail hT H _ T (H.length + 2) (H.length + 1) H.length lt offt capt rows _ hpos (by omega) hrl hread hr ⟨?_, ?_, ?_, upAt_len .., dnAt_len .., Keeps.app _ _, by omega, by omega⟩ (by simp) (by simp) (by simp)⟩
  all_goals (rw [List.getElem?_append_right (by omega)]; simp [hzu, hzd])
end Go.Proofs.YtjncbipaikmogaaDoor.Latt
