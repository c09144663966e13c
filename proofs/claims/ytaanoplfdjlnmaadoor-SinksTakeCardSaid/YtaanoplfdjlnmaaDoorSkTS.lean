/- One set of sinks, and what lies beside it. -/
import Derived.Test.YtaanoplfdjlnmaaDoorSkApart
import Derived.Test.YtaanoplfdjlnmaaDoorSkFlow
import Derived.Test.YtaanoplfdjlnmaaDoorAmPairs
namespace Go.Proofs.YtaanoplfdjlnmaaDoor.Sk
open Go Go.RowKit Am Latt
set_option maxRecDepth 100000
set_option linter.unusedSimpArgs false
set_option linter.unusedVariables false
variable {R : Ro}
structure TS (H : AH) (s l p q : Nat) (T : List (List Bool)) (S : List SK) (n : Nat) (xs : List Nat) : Prop where
  lat : LatIn H l p q (upT T) (dnT T)
  ats : ∃ rv C cs ms, At H s l rv C S cs ms ∧ ∀ i ∈ xs, i < H.length ∧ ¬ Own s rv cs ms i ∧ i ≠ l ∧ i ≠ p ∧ i ≠ q
  good : Good S
  short : Short S n
variable {H : AH} {s l p q n : Nat} {T : List (List Bool)} {S : List SK} {xs : List Nat}
theorem TS.app (h : TS H s l p q T S n xs) (o : AO) : TS (H ++ [o]) s l p q T S n (H.length :: xs) := by
  obtain ⟨rv, C, cs, ms, hA, hx⟩ := h.ats
  have hf : ∀ i, i < H.length → (H ++ [o])[i]? = H[i]? := fun i hi => List.getElem?_append_left hi
  refine ⟨h.lat.frame fun i hi => hf i (lat_lt h.lat i hi), ⟨_, _, _, _, hA.frame fun i hi => hf i (hA.lt hi), fun i hi => ?_⟩, h.good, h.short⟩
  rcases List.mem_cons.1 hi with rfl | hi
  · refine ⟨by simp, fun ho => ?_, fun e => ?_, fun e => ?_, fun e => ?_⟩
    · have := hA.lt ho; omega
    · have := lat_lt h.lat _ (.inl e); omega
    · have := lat_lt h.lat _ (.inr (.inl e)); omega
    · have := lat_lt h.lat _ (.inr (.inr e)); omega
  · have := hx i hi
    exact ⟨by simp; omega, this.2⟩
theorem TS.set (h : TS H s l p q T S n xs) {i : Nat} (hi : i ∈ xs) (o : AO) : TS (H.set i o) s l p q T S n xs := by
  obtain ⟨rv, C, cs, ms, hA, hx⟩ := h.ats
  have hq := hx i hi
  have hf : ∀ j, j ≠ i → (H.set i o)[j]? = H[j]? := fun j hj => by rw [List.getElem?_set, if_neg (Ne.symm hj)]
  refine ⟨h.lat.frame fun j hj => hf j ?_, ⟨_, _, _, _, hA.frame fun j hj => hf j ?_, fun j hj => by rw [List.length_set]; exact hx j hj⟩, h.good, h.short⟩
  · rintro rfl
    rcases hj with e | e | e
    · exact hq.2.2.1 e
    · exact hq.2.2.2.1 e
    · exact hq.2.2.2.2 e
  · rintro rfl
    exact hq.2.1 hj
theorem TS.sub (h : TS H s l p q T S n xs) {ys : List Nat} (hy : ∀ i ∈ ys, i ∈ xs) {n' : Nat} (hn : n ≤ n') : TS H s l p q T S n' ys := by
  obtain ⟨rv, C, cs, ms, hA, hx⟩ := h.ats
  exact ⟨h.lat, ⟨_, _, _, _, hA, fun i hi => hx i (hy i hi)⟩, h.good, fun x hx' => Nat.le_trans (h.short x hx') hn⟩
theorem TS.write (h : TS H s l p q T S n xs) (g1 : 1 ≤ T.length) (g2 : T.length ≤ 64) (hk : n ≤ 100000) (a b : Int) {t : List UInt8} (ht : t.length ≤ 100) :
    ACalls Tryd.prog R 16 [.ptr (.mu s) 0, .int .i64 a, .int .i64 b, .str t] H fun v H' =>
      (¬ mayF (upT T) S a b = 0 ∧ v = .tuple [.int .i64 0, .int .i64 (mayF (upT T) S a b)] ∧ H' = H) ∨
       (mayF (upT T) S a b = 0 ∧ ∃ (an : Nat) (x : SK), a = an ∧ S[an]? = some x ∧ v = .tuple [.int .i64 (takeN x b t), .int .i64 0] ∧ TS H' s l p q T (S.set an (takeK x b t)) (n + 100) xs ∧ ∀ i ∈ xs, H'[i]? = H[i]?) := by
  obtain ⟨rv, C, cs, ms, hA, hx⟩ := h.ats
  refine (write_at hA (h.lat.at g1 g2) a b t h.good (fun x hx => by have := h.short x hx; omega)).mono ?_
  rintro v H' (⟨hm, rfl, rfl⟩ | ⟨hm, an, x, rfl, hxx, rfl, C', cs', hA', hlen, hown, hfr⟩)
  · exact .inl ⟨hm, rfl, rfl⟩
  · refine .inr ⟨hm, an, x, rfl, hxx, rfl, ⟨?_, ⟨_, _, _, _, hA', fun i hi => ?_⟩, h.good.take hxx b t, h.short.take hxx b ht⟩, fun i hi => hfr i (hx i hi).1 (hx i hi).2.1⟩
    · exact h.lat.frame fun i hi => hfr i (lat_lt h.lat i hi) (lat_off hA h.lat i hi)
    · have hq := hx i hi
      refine ⟨by omega, fun ho => ?_, hq.2.2⟩
      rcases hown i ho with ha | ha
      · exact hq.2.1 ha
      · omega
theorem TS.left (h : TS H s l p q T S n xs) (g1 : 1 ≤ T.length) (g2 : T.length ≤ 64) (a b : Int) :
    ACalls Tryd.prog R 17 [.ptr (.mu s) 0, .int .i64 a, .int .i64 b] H fun v H' => v = .int .i64 (leftF (upT T) S a b) ∧ H' = H := by
  obtain ⟨rv, C, cs, ms, hA, hx⟩ := h.ats
  exact left_at hA (h.lat.at g1 g2) a b h.good
theorem TS.may (h : TS H s l p q T S n xs) (g1 : 1 ≤ T.length) (g2 : T.length ≤ 64) (a b : Int) :
    ACalls Tryd.prog R 15 [.ptr (.mu s) 0, .int .i64 a, .int .i64 b] H fun v H' => v = .int .i64 (mayF (upT T) S a b) ∧ H' = H := by
  obtain ⟨rv, C, cs, ms, hA, hx⟩ := h.ats
  exact may_at hA (h.lat.at g1 g2) a b
theorem TS.content (h : TS H s l p q T S n xs) (a : Int) :
    ACalls Tryd.prog R 18 [.ptr (.mu s) 0, .int .i64 a] H fun v H' => v = .str (contentF S a) ∧ H' = H := by
  obtain ⟨rv, C, cs, ms, hA, hx⟩ := h.ats
  exact content_at hA a
theorem TS.len (h : TS H s l p q T S n xs) : ACalls Tryd.prog R 13 [.ptr (.mu s) 0] H fun v H' => v = .int .i64 S.length ∧ H' = H := by
  obtain ⟨rv, C, cs, ms, hA, hx⟩ := h.ats
  exact len_at hA
theorem TS.at (h : TS H s l p q T S n xs) (g1 : 1 ≤ T.length) (g2 : T.length ≤ 64) : LatAt R H l (upT T) (dnT T) := h.lat.at g1 g2
theorem TS.lt (h : TS H s l p q T S n xs) {i : Nat} (hi : i ∈ xs) : i < H.length := by
  obtain ⟨rv, C, cs, ms, hA, hx⟩ := h.ats
  exact (hx i hi).1
theorem new_nil (H : AH) (a : AV) : ACalls Tryd.prog R 11 [.nilptr, a] H fun v H' => v = .tuple [.nilptr, .int .i64 2] ∧ H' = H := by
  refine ACalls.of_wpE Fns.ok11 (by simp [Fns.a11]) ?_
  simp [Fns.a11]
def cstr (x : SK) : AV := .str x.content
def lr (x : SK) : Int × Int := (x.label, x.room)
theorem zeros_str : ∀ n, zerosEv [.str []] n = List.replicate n (.str [])
  | 0 => rfl
  | n + 1 => by simp [zerosEv, zeros_str n, List.replicate_succ]
theorem mkS_cstr : ∀ P : List (Int × Int), (mkS P).map cstr = List.replicate P.length (.str [])
  | [] => rfl
  | p :: P => by
    have := mkS_cstr P
    unfold mkS at this ⊢
    simp only [List.map_cons, this, List.length_cons, List.replicate_succ]
    rfl
theorem mkS_lr : ∀ P : List (Int × Int), (mkS P).map lr = P
  | [] => rfl
  | p :: P => by
    have := mkS_lr P
    unfold mkS at this ⊢
    simp only [List.map_cons, this]
    rfl
theorem set_lr (S : List SK) {an : Nat} {x : SK} (hx : S[an]? = some x) (b : Int) (t : List UInt8) : (S.set an (takeK x b t)).map lr = S.map lr := by
  rw [List.map_set]
  apply List.ext_getElem?
  intro i
  rw [List.getElem?_set]
  by_cases hi : an = i
  · subst hi
    have hl := (List.getElem?_eq_some_iff.1 hx).1
    simp [hl, hx]
    rw [← (List.getElem?_eq_some_iff.1 hx).2]
    simp [takeK, lr]
  · simp [hi]
theorem may_of {up : List Nat} {S : List SK} {an : Nat} {x : SK} (hx : S[an]? = some x) (b : Int) : mayF up S (an : Int) b = if isL up.length b then (if bel up b x.label then 0 else 7) else 1 := by
  obtain ⟨hl, rfl⟩ := List.getElem?_eq_some_iff.1 hx
  unfold mayF labelAt
  simp [isL, hl]
theorem may_none {up : List Nat} {S : List SK} {a : Int} (h : ¬ (0 ≤ a ∧ a < S.length)) (b : Int) : mayF up S a b = 4 := by
  have : isL S.length a = false := by
    unfold isL
    cases h1 : decide (0 ≤ a) with
    | false => rfl
    | true => cases h2 : decide (a < S.length) with
      | false => rfl
      | true => exact absurd ⟨of_decide_eq_true h1, of_decide_eq_true h2⟩ h
  unfold mayF
  simp [this]
theorem left_none {up : List Nat} {S : List SK} {a b : Int} (h : ¬ mayF up S a b = 0) : leftF up S a b = 0 := by simp [leftF, h]
theorem left_of {up : List Nat} {S : List SK} {an : Nat} {x : SK} {b : Int} (hx : S[an]? = some x) (h : mayF up S (an : Int) b = 0) : leftF up S (an : Int) b = x.room - x.came b := by simp [leftF, h, hx]
theorem content_of {S : List SK} {an : Nat} {x : SK} (hx : S[an]? = some x) : contentF S (an : Int) = x.content := by
  obtain ⟨hl, rfl⟩ := List.getElem?_eq_some_iff.1 hx
  unfold contentF
  simp [isL, hl]
theorem content_none {S : List SK} {a : Int} (h : ¬ (0 ≤ a ∧ a < S.length)) : contentF S a = [] := by
  have : isL S.length a = false := by
    unfold isL
    cases h1 : decide (0 ≤ a) with
    | false => rfl
    | true => cases h2 : decide (a < S.length) with
      | false => rfl
      | true => exact absurd ⟨of_decide_eq_true h1, of_decide_eq_true h2⟩ h
  unfold contentF
  simp [this]
theorem writeN_last (H : AH) {old new : List AV} (t : TypeId) (hl : new.length = old.length) (h1 : new.all AV.oneCell = true) : writeN (H ++ [.cells old t]) H.length 0 new = some (H ++ [.cells new t]) := by
  unfold writeN
  have hsp : splice old 0 new = new := by
    unfold splice
    rw [hl]
    simp
  simp [AO.content, AO.withContent, hsp, h1, hl]
theorem neq_str (l : List UInt8) : binEv .neq (.str l) (.str l) = some (.bool false) := by
  show some (AV.bool (!(l == l))) = _
  rw [show (l == l) = true by rw [beq_iff_eq]]
  rfl
theorem eql_str (l : List UInt8) : binEv .eql (.str l) (.str l) = some (.bool true) := by
  show some (AV.bool (l == l)) = _
  rw [show (l == l) = true by rw [beq_iff_eq]]
theorem came_set {f : Int × Int → Int} {S : List SK} (hf : ∀ (a : Nat) x b, S[a]? = some x → f ((a : Int), b) = x.came b) {an : Nat} {x : SK} (hx : S[an]? = some x) (zb : Int) (t : List UInt8) :
    ∀ (a : Nat) y b, (S.set an (takeK x zb t))[a]? = some y → updP f ((an : Int), zb) (x.came zb + takeN x zb t) ((a : Int), b) = y.came b := by
  intro a y b hy
  rw [List.getElem?_set] at hy
  unfold updP
  by_cases ha : an = a
  · subst ha
    have hl := (List.getElem?_eq_some_iff.1 hx).1
    simp [hl] at hy
    subst hy
    by_cases hb : b = zb
    · simp [hb, takeK, updI]
    · simp [hb, takeK, updI, hf an x b hx]
  · simp [ha] at hy
    have : ¬ (a : Int) = (an : Int) := by omega
    simp [this, hf a y b hy]
end Go.Proofs.YtaanoplfdjlnmaaDoor.Sk
