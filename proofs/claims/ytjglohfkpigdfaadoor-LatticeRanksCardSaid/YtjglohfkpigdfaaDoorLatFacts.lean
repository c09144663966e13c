/- What joins and meets are, of a table: no program. -/
import Derived.Test.YtjglohfkpigdfaaDoorLatAsk
import Derived.Test.YtjglohfkpigdfaaDoorLatGood
namespace Go.Proofs.YtjglohfkpigdfaaDoor.Latt
open Go Go.RowKit Am
set_option linter.unusedSimpArgs false
set_option linter.unusedVariables false
variable {T : List (List Bool)}
theorem upT_tb {x y : Nat} (hx : x < T.length) (hy : y < T.length) : (at' (upT T) x).testBit y = tb T x y := by rw [upT_test]; simp [hx, hy]
theorem dnT_tb {x y : Nat} (hx : x < T.length) (hy : y < T.length) : (at' (dnT T) x).testBit y = tb T y x := by rw [dnT_test]; simp [hx, hy]
theorem GoodT.anti (g : GoodT T) {a b : Nat} (ha : a < T.length) (hb : b < T.length) (h1 : tb T a b = true) (h2 : tb T b a = true) : a = b := g.up_anti (by rw [upT_tb ha hb]; exact h1) (by rw [upT_tb hb ha]; exact h2)
theorem GoodT.trans (g : GoodT T) {a b c : Nat} (ha : a < T.length) (hb : b < T.length) (hc : c < T.length) (h1 : tb T a b = true) (h2 : tb T b c = true) : tb T a c = true := by
  have := (nandN_zero _ _ (upT_lt64 g b) (upT_lt64 g a)).1 ((g.ord a ha).2.2 b (by rw [upT_tb ha hb]; exact h1)) c (by rw [upT_tb hb hc]; exact h2)
  rwa [upT_tb ha hc] at this
/-- The lowest above two; the highest below two. -/
def LubT (T : List (List Bool)) (a b x : Nat) : Prop := x < T.length ∧ tb T a x = true ∧ tb T b x = true ∧ ∀ y, y < T.length → tb T a y = true → tb T b y = true → tb T x y = true
def GlbT (T : List (List Bool)) (a b x : Nat) : Prop := x < T.length ∧ tb T x a = true ∧ tb T x b = true ∧ ∀ y, y < T.length → tb T y a = true → tb T y b = true → tb T y x = true
theorem isB_up {a b x : Nat} (ha : a < T.length) (hb : b < T.length) : IsB (upT T) a b x ↔ LubT T a b x := by
  constructor
  · intro h
    have h1 := h.1
    rw [Nat.testBit_and, upT_test, upT_test] at h1
    simp at h1
    refine ⟨h1.1.1.2, h1.1.2, h1.2.2, fun y hy h3 h4 => ?_⟩
    have := h.sub (j := y) (by rw [Nat.testBit_and, upT_tb ha hy, upT_tb hb hy, h3, h4]; rfl)
    rwa [upT_tb h1.1.1.2 hy] at this
  · rintro ⟨hx, h1, h2, h3⟩
    refine ⟨by rw [Nat.testBit_and, upT_tb ha hx, upT_tb hb hx, h1, h2]; rfl, Nat.eq_of_testBit_eq fun j => ?_⟩
    rw [Nat.testBit_and]
    by_cases hj : j < T.length
    · rw [Nat.testBit_and, upT_tb hx hj, upT_tb ha hj, upT_tb hb hj]
      cases e1 : tb T a j <;> cases e2 : tb T b j <;> simp
      exact h3 j hj e1 e2
    · rw [Nat.testBit_and, upT_test, upT_test, upT_test]; simp [hj]
theorem isB_dn {a b x : Nat} (ha : a < T.length) (hb : b < T.length) : IsB (dnT T) a b x ↔ GlbT T a b x := by
  constructor
  · intro h
    have h1 := h.1
    rw [Nat.testBit_and, dnT_test, dnT_test] at h1
    simp at h1
    refine ⟨h1.1.1.2, h1.1.2, h1.2.2, fun y hy h3 h4 => ?_⟩
    have := h.sub (j := y) (by rw [Nat.testBit_and, dnT_tb ha hy, dnT_tb hb hy, h3, h4]; rfl)
    rwa [dnT_tb h1.1.1.2 hy] at this
  · rintro ⟨hx, h1, h2, h3⟩
    refine ⟨by rw [Nat.testBit_and, dnT_tb ha hx, dnT_tb hb hx, h1, h2]; rfl, Nat.eq_of_testBit_eq fun j => ?_⟩
    rw [Nat.testBit_and]
    by_cases hj : j < T.length
    · rw [Nat.testBit_and, dnT_tb hx hj, dnT_tb ha hj, dnT_tb hb hj]
      cases e1 : tb T j a <;> cases e2 : tb T j b <;> simp
      exact h3 j hj e1 e2
    · rw [Nat.testBit_and, dnT_test, dnT_test, dnT_test]; simp [hj]
theorem jn_lub (g : GoodT T) {a b : Nat} (ha : a < T.length) (hb : b < T.length) : LubT T a b (jn T a b) := (isB_up ha hb).1 (jn_is g ha hb)
theorem mt_glb (g : GoodT T) {a b : Nat} (ha : a < T.length) (hb : b < T.length) : GlbT T a b (mt T a b) := (isB_dn ha hb).1 (mt_is g ha hb)
theorem jn_of (g : GoodT T) {a b x : Nat} (ha : a < T.length) (hb : b < T.length) (h : LubT T a b x) : jn T a b = x := (jn_eq g ha hb ((isB_up ha hb).2 h)).symm
theorem mt_of (g : GoodT T) {a b x : Nat} (ha : a < T.length) (hb : b < T.length) (h : GlbT T a b x) : mt T a b = x := (mt_eq g ha hb ((isB_dn ha hb).2 h)).symm
/-! ### Top and bottom -/
theorem foldK_succ (F : Nat → Nat → Nat) (n k : Nat) : foldK F n (k + 1) = F (foldK F n k) k := by unfold foldK; rw [List.range_succ, List.foldl_append]; rfl
theorem jfold (g : GoodT T) : ∀ k, k ≤ T.length → foldK (jn T) T.length k < T.length ∧ ∀ a, a < k → tb T a (foldK (jn T) T.length k) = true
  | 0, _ => ⟨foldK_lt g.lo (fun a b ha hb => jn_lt g ha hb) 0 (by omega), fun a h => by omega⟩
  | k + 1, h => by
    obtain ⟨h1, h2⟩ := jfold g k (by omega)
    have hl := jn_lub g h1 (show k < T.length from h)
    rw [foldK_succ]
    refine ⟨hl.1, fun a ha => ?_⟩
    by_cases hk : a = k
    · subst hk; exact hl.2.2.1
    · exact g.trans (by omega) h1 hl.1 (h2 a (by omega)) hl.2.1
theorem mfold (g : GoodT T) : ∀ k, k ≤ T.length → foldK (mt T) T.length k < T.length ∧ ∀ a, a < k → tb T (foldK (mt T) T.length k) a = true
  | 0, _ => ⟨foldK_lt g.lo (fun a b ha hb => mt_lt g ha hb) 0 (by omega), fun a h => by omega⟩
  | k + 1, h => by
    obtain ⟨h1, h2⟩ := mfold g k (by omega)
    have hl := mt_glb g h1 (show k < T.length from h)
    rw [foldK_succ]
    refine ⟨hl.1, fun a ha => ?_⟩
    by_cases hk : a = k
    · subst hk; exact hl.2.2.1
    · exact g.trans hl.1 h1 (by omega) hl.2.1 (h2 a (by omega))
theorem tp_lt (g : GoodT T) : tp T < T.length := (jfold g _ (Nat.le_refl _)).1
theorem bt_lt (g : GoodT T) : bt T < T.length := (mfold g _ (Nat.le_refl _)).1
theorem tp_top (g : GoodT T) {a : Nat} (ha : a < T.length) : tb T a (tp T) = true := (jfold g _ (Nat.le_refl _)).2 a ha
theorem bt_bot (g : GoodT T) {a : Nat} (ha : a < T.length) : tb T (bt T) a = true := (mfold g _ (Nat.le_refl _)).2 a ha
theorem tp_of (g : GoodT T) {x : Nat} (hx : x < T.length) (h : ∀ a, a < T.length → tb T a x = true) : tp T = x := g.anti (tp_lt g) hx (h _ (tp_lt g)) (tp_top g hx)
theorem bt_of (g : GoodT T) {x : Nat} (hx : x < T.length) (h : ∀ a, a < T.length → tb T x a = true) : bt T = x := g.anti (bt_lt g) hx (bt_bot g hx) (h _ (bt_lt g))
/-! ### What stays a lattice -/
theorem LatSt.keeps {H H' : AH} {l p q : Nat} (h : LatSt H l p q T) (hk : Keeps H H') : LatSt H' l p q T := by
  have f : ∀ {i : Nat} {o : AO}, H[i]? = some o → H'[i]? = some o := fun {i o} hi => by rw [hk.2 i (List.getElem?_eq_some_iff.1 hi).1]; exact hi
  refine ⟨?_, f h.pu, f h.qd, h.dis⟩
  rcases h.box with hb | ⟨j, m, hb, hj, hm⟩
  · exact .inl (f hb)
  · exact .inr ⟨j, m, f hb, f hj, f hm⟩
theorem LatIn.keeps {H H' : AH} {l p q : Nat} {up dn : List Nat} (h : LatIn H l p q up dn) (hk : Keeps H H') : LatIn H' l p q up dn := by
  have f : ∀ {i : Nat} {o : AO}, H[i]? = some o → H'[i]? = some o := fun {i o} hi => by rw [hk.2 i (List.getElem?_eq_some_iff.1 hi).1]; exact hi
  exact ⟨f h.box, f h.pu, f h.qd, h.len, h.dis⟩
/-- A fresh one beside another lattice's work. -/
theorem LatIn.stays {H H' : AH} {l p q k : Nat} {up dn : List Nat} (h : LatIn H l p q up dn) (hk : Stays k H H') (hl : l ≠ k) (hp : p ≠ k) (hq : q ≠ k) : LatIn H' l p q up dn := by
  have f : ∀ {i : Nat} {o : AO}, i ≠ k → H[i]? = some o → H'[i]? = some o := fun {i o} hne hi => by rw [hk.2 i (List.getElem?_eq_some_iff.1 hi).1 hne]; exact hi
  exact ⟨f hl h.box, f hp h.pu, f hq h.qd, h.len, h.dis⟩
end Go.Proofs.YtjglohfkpigdfaaDoor.Latt
