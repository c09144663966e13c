/- Joins and meets: what they are; made once. -/
import Derived.Test.YtjglohfkpigdfaaDoorLatLook
import Derived.Test.YtjglohfkpigdfaaDoorLatPure
import Derived.Test.YtjglohfkpigdfaaDoorAmApp
import Derived.Test.YtjglohfkpigdfaaDoorCtrs
namespace Go.Proofs.YtjglohfkpigdfaaDoor.Latt
open Go Go.RowKit Am
set_option maxRecDepth 100000
set_option linter.unusedSimpArgs false
set_option linter.unusedVariables false
attribute [-simp] Am.binEv Am.intBin Am.read1
attribute [local simp] binEv_lss binEv_leq binEv_gtr binEv_geq binEv_eql binEv_neq binEv_add binEv_sub binEv_mul binEv_shr58 read1_ro read1_mu
variable {R : Ro}
theorem bestJ (hT : HasTab R) {T : List (List Bool)} (g : GoodT T) {H : AH} {p : Nat} (hp : H[p]? = some (.cells ((upT T).map u64v) 58)) {a b : Nat} (ha : a < T.length) (hb : b < T.length) :
    ACalls Tryd.prog R 24 [.int .u64 ((at' (upT T) a &&& at' (upT T) b : Nat) : Int), .slice (.mu p) 0 T.length (.known T.length)] H fun v H' => v = .int .i64 (jn T a b) ∧ H' = H := by
  refine (best_ok hT H _ (and_lt64 _ _ (upT_lt64 g a)) (upT T) (fun x hx => ?_) _ (sees_cells hp (by simp [upT_len])) (fun j hj => ?_)).mono ?_
  · obtain ⟨i, hi, rfl⟩ := List.mem_iff_getElem.1 hx
    rw [← at'_lt]; exact upT_lt64 g i
  · rw [Nat.testBit_and, upT_test] at hj; simp at hj; rw [upT_len]; exact hj.1.1.2
  · rintro v H' ⟨rfl, h | ⟨i, rfl, h1, h2⟩⟩
    · exact absurd (jn_is g ha hb).2 (h.2 _ (jn_is g ha hb).1)
    · exact ⟨by rw [jn_eq g ha hb ⟨h1, h2⟩], rfl⟩
theorem bestM (hT : HasTab R) {T : List (List Bool)} (g : GoodT T) {H : AH} {p : Nat} (hp : H[p]? = some (.cells ((dnT T).map u64v) 58)) {a b : Nat} (ha : a < T.length) (hb : b < T.length) :
    ACalls Tryd.prog R 24 [.int .u64 ((at' (dnT T) a &&& at' (dnT T) b : Nat) : Int), .slice (.mu p) 0 T.length (.known T.length)] H fun v H' => v = .int .i64 (mt T a b) ∧ H' = H := by
  refine (best_ok hT H _ (and_lt64 _ _ (dnT_lt64 g a)) (dnT T) (fun x hx => ?_) _ (sees_cells hp (by simp [dnT_len])) (fun j hj => ?_)).mono ?_
  · obtain ⟨i, hi, rfl⟩ := List.mem_iff_getElem.1 hx
    rw [← at'_lt]; exact dnT_lt64 g i
  · rw [Nat.testBit_and, dnT_test] at hj; simp at hj; rw [dnT_len]; exact hj.1.1.2
  · rintro v H' ⟨rfl, h | ⟨i, rfl, h1, h2⟩⟩
    · exact absurd (mt_is g ha hb).2 (h.2 _ (mt_is g ha hb).1)
    · exact ⟨by rw [mt_eq g ha hb ⟨h1, h2⟩], rfl⟩
/-! ### The rows of joins and meets -/
noncomputable def jl (T : List (List Bool)) (k : Nat) : List AV := (List.range k).map fun i => .int .i8 (jn T (i / T.length) (i % T.length))
noncomputable def ml (T : List (List Bool)) (k : Nat) : List AV := (List.range k).map fun i => .int .i8 (mt T (i / T.length) (i % T.length))
theorem jl_len (T : List (List Bool)) (k : Nat) : (jl T k).length = k := by simp [jl]
theorem ml_len (T : List (List Bool)) (k : Nat) : (ml T k).length = k := by simp [ml]
theorem idx_div {n a b : Nat} (hb : b < n) : (a * n + b) / n = a := by rw [Nat.add_comm, Nat.add_mul_div_right _ _ (by omega), Nat.div_eq_of_lt hb]; omega
theorem idx_mod {n a b : Nat} (hb : b < n) : (a * n + b) % n = b := by rw [Nat.add_comm, Nat.add_mul_mod_self_right, Nat.mod_eq_of_lt hb]
theorem jl_succ (T : List (List Bool)) {a b : Nat} (hb : b < T.length) : jl T (a * T.length + b + 1) = jl T (a * T.length + b) ++ [.int .i8 (jn T a b)] := by
  unfold jl; rw [List.range_succ, List.map_append, List.map_singleton, idx_div hb, idx_mod hb]
theorem ml_succ (T : List (List Bool)) {a b : Nat} (hb : b < T.length) : ml T (a * T.length + b + 1) = ml T (a * T.length + b) ++ [.int .i8 (mt T a b)] := by
  unfold ml; rw [List.range_succ, List.map_append, List.map_singleton, idx_div hb, idx_mod hb]
theorem jl_get (T : List (List Bool)) {k a b : Nat} (hb : b < T.length) (hk : a * T.length + b < k) : (jl T k)[a * T.length + b]? = some (.int .i8 (jn T a b)) := by
  unfold jl; rw [List.getElem?_map, List.getElem?_range hk]; simp [idx_div hb, idx_mod hb]
theorem ml_get (T : List (List Bool)) {k a b : Nat} (hb : b < T.length) (hk : a * T.length + b < k) : (ml T k)[a * T.length + b]? = some (.int .i8 (mt T a b)) := by
  unfold ml; rw [List.getElem?_map, List.getElem?_range hk]; simp [idx_div hb, idx_mod hb]
structure Mk (H0 H : AH) (l p q c : Nat) (T : List (List Bool)) (kj km : Nat) (jv mv : AV) : Prop where
  box : H[l]? = some (.cells [.slice (.mu p) 0 T.length (.known T.length), .slice (.mu q) 0 T.length (.known T.length), .int .u32 0, .int .i32 1, .int .u32 0, jv, mv] 53)
  pu : H[p]? = some (.cells ((upT T).map u64v) 58)
  qd : H[q]? = some (.cells ((dnT T).map u64v) 58)
  cap : H[c]? = some (.cells [.ptr (.mu l) 0] 22)
  jr : RowAt H jv kj 1 62 (jl T kj)
  mr : RowAt H mv km 1 62 (ml T km)
  jlo : ∀ i o ln cp, jv = .slice (.mu i) o ln cp → H0.length ≤ i
  mlo : ∀ i o ln cp, mv = .slice (.mu i) o ln cp → H0.length ≤ i
  ne : ∀ i o ln cp o' ln' cp', jv = .slice (.mu i) o ln cp → mv ≠ .slice (.mu i) o' ln' cp'
  low : l < H0.length ∧ p < H0.length ∧ q < H0.length ∧ c < H0.length
  dis : p ≠ l ∧ q ≠ l ∧ c ≠ l
  keeps : H0.length ≤ H.length ∧ ∀ i, i < H0.length → i ≠ l → H[i]? = H0[i]?
/-- What follows an append, ahead of the store. -/
structure Mid (H0 H G : AH) (l p q c : Nat) : Prop where
  l : G[l]? = H[l]?
  p : G[p]? = H[p]?
  q : G[q]? = H[q]?
  c : G[c]? = H[c]?
theorem writeN_box {G : AH} {l : Nat} {cs : List AV} {t : TypeId} (h : G[l]? = some (.cells cs t)) {i : Nat} (hi : i < cs.length) {v : AV} (hv : v.oneCell = true) : writeN G l i [v] = some (G.set l (.cells (cs.set i v) t)) := by
  unfold writeN
  rw [h]
  have hi' : i + 1 ≤ cs.length := hi
  simp only [AO.content, AO.withContent, splice_one hi]
  rw [if_pos ⟨hi', by rw [List.all_cons, hv]; rfl⟩]
theorem Mk.stepJ {H0 H : AH} {l p q c : Nat} {T : List (List Bool)} {a b km : Nat} {jv mv : AV} (h : Mk H0 H l p q c T (a * T.length + b) km jv mv) (hb : b < T.length) (hn : T.length ≤ 64) (ha : a < T.length) {x : Nat} (hx : x = jn T a b) :
    ∃ G, appendEv R (H ++ [.cells [.int .i8 x] 62]) 62 1 1 jv (.slice (.mu H.length) 0 1 (.known 1)) = some (.slice (.mu (H.length + 1)) 0 (a * T.length + b + 1) (.opn 0), G) ∧ Mid H0 H G l p q c ∧
      ∃ G', writeN G l 5 [.slice (.mu (H.length + 1)) 0 (a * T.length + b + 1) (.opn 0)] = some G' ∧ Mk H0 G' l p q c T (a * T.length + b + 1) km (.slice (.mu (H.length + 1)) 0 (a * T.length + b + 1) (.opn 0)) mv := by
  have hkb : a * T.length + b < 64 * 64 := by
    have : a * T.length ≤ 63 * 64 := Nat.mul_le_mul (by omega) hn
    omega
  have hrow : RowAt (H ++ [.cells [.int .i8 x] 62]) jv (a * T.length + b) 1 62 (jl T (a * T.length + b)) := h.jr.frame fun j hj => by
    rcases h.jr with ⟨h1, _⟩ | ⟨j', h1, h2, _⟩
    · rw [hj] at h1; cases h1
    · rw [hj] at h1; cases h1
      exact List.getElem?_append_left (List.getElem?_eq_some_iff.1 h2).1
  obtain ⟨G, hG, hGl, hGr, hGf⟩ := append_row (R := R) (by' := 1) hrow (src_cells (s := H.length) (m := 1) (c := [.int .i8 x]) (t := 62) (cap := .known 1) (by simp) (by simp)) (by omega) (by omega) (by omega) (by omega) (by simp [AV.oneCell]) (by simp)
  simp only [List.length_append, List.length_cons, List.length_nil, Nat.zero_add] at hG hGl hGr hGf
  have hll := h.keeps.1
  have hf : ∀ i, i < H0.length → G[i]? = H[i]? := fun i hi => by
    rw [hGf i (by omega) (fun o ln cp e => by have := h.jlo i o ln cp e; omega), List.getElem?_append_left (by omega)]
  have hmid : Mid H0 H G l p q c := ⟨hf l h.low.1, hf p h.low.2.1, hf q h.low.2.2.1, hf c h.low.2.2.2⟩
  refine ⟨G, hG, hmid, _, writeN_box (by rw [hmid.l]; exact h.box) (by simp) rfl, ?_⟩
  have hne : ∀ i, i ≠ l → (G.set l (.cells ([AV.slice (.mu p) 0 T.length (.known T.length), .slice (.mu q) 0 T.length (.known T.length), .int .u32 0, .int .i32 1, .int .u32 0, jv, mv].set 5 (.slice (.mu (H.length + 1)) 0 (a * T.length + b + 1) (.opn 0))) 53))[i]? = G[i]? := fun i hi => by
    rw [List.getElem?_set, if_neg (Ne.symm hi)]
  have hlG : l < G.length := by have := h.low.1; omega
  have hlow := h.low
  refine ⟨by rw [List.getElem?_set, if_pos rfl, if_pos hlG]; rfl, by rw [hne p h.dis.1, hmid.p]; exact h.pu, by rw [hne q h.dis.2.1, hmid.q]; exact h.qd, by rw [hne c h.dis.2.2, hmid.c]; exact h.cap, ?_, ?_, ?_, h.mlo, ?_, h.low, h.dis, ?_⟩
  · rw [jl_succ T hb]
    rw [← hx]
    refine hGr.frame fun j hj => ?_
    simp only [AV.slice.injEq, Am.Loc.mu.injEq] at hj
    rw [hne j (by omega)]
  · refine h.mr.frame fun j hj => ?_
    rw [hne j (by have := h.mlo j _ _ _ hj; omega)]
    rcases h.mr with ⟨h1, _⟩ | ⟨j', h1, h2, _⟩
    · rw [hj] at h1; cases h1
    · rw [hj] at h1; cases h1
      have hjl := (List.getElem?_eq_some_iff.1 h2).1
      rw [hGf j (by omega) (fun o ln cp e => h.ne j o ln cp _ _ _ e hj), List.getElem?_append_left hjl]
  · intro i o ln cp e
    simp only [AV.slice.injEq, Am.Loc.mu.injEq] at e
    omega
  · intro i o ln cp o' ln' cp' e e2
    simp only [AV.slice.injEq, Am.Loc.mu.injEq] at e
    have : i < H.length := by
      rcases h.mr with ⟨h1, _⟩ | ⟨j', h1, h2, _⟩
      · rw [e2] at h1; cases h1
      · rw [e2] at h1; cases h1; exact (List.getElem?_eq_some_iff.1 h2).1
    omega
  · exact ⟨by simp; omega, fun i hi hil => by rw [hne i hil, hf i hi]; exact h.keeps.2 i hi hil⟩
theorem Mk.stepM {H0 H : AH} {l p q c : Nat} {T : List (List Bool)} {a b kj : Nat} {jv mv : AV} (h : Mk H0 H l p q c T kj (a * T.length + b) jv mv) (hb : b < T.length) (hn : T.length ≤ 64) (ha : a < T.length) {x : Nat} (hx : x = mt T a b) :
    ∃ G, appendEv R (H ++ [.cells [.int .i8 x] 62]) 62 1 1 mv (.slice (.mu H.length) 0 1 (.known 1)) = some (.slice (.mu (H.length + 1)) 0 (a * T.length + b + 1) (.opn 0), G) ∧ Mid H0 H G l p q c ∧
      ∃ G', writeN G l 6 [.slice (.mu (H.length + 1)) 0 (a * T.length + b + 1) (.opn 0)] = some G' ∧ Mk H0 G' l p q c T kj (a * T.length + b + 1) jv (.slice (.mu (H.length + 1)) 0 (a * T.length + b + 1) (.opn 0)) := by
  have hkb : a * T.length + b < 64 * 64 := by
    have : a * T.length ≤ 63 * 64 := Nat.mul_le_mul (by omega) hn
    omega
  have hrow : RowAt (H ++ [.cells [.int .i8 x] 62]) mv (a * T.length + b) 1 62 (ml T (a * T.length + b)) := h.mr.frame fun j hj => by
    rcases h.mr with ⟨h1, _⟩ | ⟨j', h1, h2, _⟩
    · rw [hj] at h1; cases h1
    · rw [hj] at h1; cases h1
      exact List.getElem?_append_left (List.getElem?_eq_some_iff.1 h2).1
  obtain ⟨G, hG, hGl, hGr, hGf⟩ := append_row (R := R) (by' := 1) hrow (src_cells (s := H.length) (m := 1) (c := [.int .i8 x]) (t := 62) (cap := .known 1) (by simp) (by simp)) (by omega) (by omega) (by omega) (by omega) (by simp [AV.oneCell]) (by simp)
  simp only [List.length_append, List.length_cons, List.length_nil, Nat.zero_add] at hG hGl hGr hGf
  have hll := h.keeps.1
  have hf : ∀ i, i < H0.length → G[i]? = H[i]? := fun i hi => by
    rw [hGf i (by omega) (fun o ln cp e => by have := h.mlo i o ln cp e; omega), List.getElem?_append_left (by omega)]
  have hmid : Mid H0 H G l p q c := ⟨hf l h.low.1, hf p h.low.2.1, hf q h.low.2.2.1, hf c h.low.2.2.2⟩
  refine ⟨G, hG, hmid, _, writeN_box (by rw [hmid.l]; exact h.box) (by simp) rfl, ?_⟩
  have hne : ∀ i, i ≠ l → (G.set l (.cells ([AV.slice (.mu p) 0 T.length (.known T.length), .slice (.mu q) 0 T.length (.known T.length), .int .u32 0, .int .i32 1, .int .u32 0, jv, mv].set 6 (.slice (.mu (H.length + 1)) 0 (a * T.length + b + 1) (.opn 0))) 53))[i]? = G[i]? := fun i hi => by
    rw [List.getElem?_set, if_neg (Ne.symm hi)]
  have hlG : l < G.length := by have := h.low.1; omega
  have hlow := h.low
  refine ⟨by rw [List.getElem?_set, if_pos rfl, if_pos hlG]; rfl, by rw [hne p h.dis.1, hmid.p]; exact h.pu, by rw [hne q h.dis.2.1, hmid.q]; exact h.qd, by rw [hne c h.dis.2.2, hmid.c]; exact h.cap, ?_, ?_, h.jlo, ?_, ?_, h.low, h.dis, ?_⟩
  · refine h.jr.frame fun j hj => ?_
    rw [hne j (by have := h.jlo j _ _ _ hj; omega)]
    rcases h.jr with ⟨h1, _⟩ | ⟨j', h1, h2, _⟩
    · rw [hj] at h1; cases h1
    · rw [hj] at h1; cases h1
      have hjl := (List.getElem?_eq_some_iff.1 h2).1
      rw [hGf j (by omega) (fun o ln cp e => h.ne j _ _ _ o ln cp hj e), List.getElem?_append_left hjl]
  · rw [ml_succ T hb]
    rw [← hx]
    refine hGr.frame fun j hj => ?_
    simp only [AV.slice.injEq, Am.Loc.mu.injEq] at hj
    rw [hne j (by omega)]
  · intro i o ln cp e
    simp only [AV.slice.injEq, Am.Loc.mu.injEq] at e
    omega
  · intro i o ln cp o' ln' cp' e e2
    simp only [AV.slice.injEq, Am.Loc.mu.injEq] at e2
    have : i < H.length := by
      rcases h.jr with ⟨h1, _⟩ | ⟨j', h1, h2, _⟩
      · rw [e] at h1; cases h1
      · rw [e] at h1; cases h1; exact (List.getElem?_eq_some_iff.1 h2).1
    omega
  · exact ⟨by simp; omega, fun i hi hil => by rw [hne i hil, hf i hi]; exact h.keeps.2 i hi hil⟩
end Go.Proofs.YtjglohfkpigdfaaDoor.Latt
