/- Tables that are lattices: joins and meets, the highest and the lowest; no program. -/
import Derived.Test.YtjncbipaikmogaaDoorLatTab
namespace Go.Proofs.YtjncbipaikmogaaDoor.Latt
open Go Go.RowKit Am
set_option linter.unusedSimpArgs false
set_option linter.unusedVariables false
/-- The best of what two labels have both. -/
def IsB (of : List Nat) (a b i : Nat) : Prop := (at' of a &&& at' of b).testBit i = true ∧ at' of i &&& (at' of a &&& at' of b) = at' of a &&& at' of b
theorem IsB.comm {of : List Nat} {a b i : Nat} (h : IsB of a b i) : IsB of b a i := by unfold IsB at *; rw [Nat.and_comm (at' of b)]; exact h
theorem GoodT.up_anti {T : List (List Bool)} (g : GoodT T) {i j : Nat} (h1 : (at' (upT T) i).testBit j = true) (h2 : (at' (upT T) j).testBit i = true) : i = j := by
  have hi := h1
  rw [upT_test] at hi h2
  simp at hi h2
  have h3 : (at' (dnT T) i).testBit j = true := by rw [dnT_test]; simp [h2]
  have := congrArg (fun z => z.testBit j) (g.ord i hi.1.1).2.1
  simp only [Nat.testBit_and, h1, h3, Nat.testBit_two_pow] at this
  simpa using this
theorem GoodT.dn_anti {T : List (List Bool)} (g : GoodT T) {i j : Nat} (h1 : (at' (dnT T) i).testBit j = true) (h2 : (at' (dnT T) j).testBit i = true) : i = j := by
  rw [dnT_test] at h1 h2
  simp at h1 h2
  refine g.up_anti ?_ ?_
  · rw [upT_test]; simp [h1, h2]
  · rw [upT_test]; simp [h1, h2]
theorem IsB.sub {of : List Nat} {a b i j : Nat} (h : IsB of a b i) (hj : (at' of a &&& at' of b).testBit j = true) : (at' of i).testBit j = true := by
  have := congrArg (fun z => z.testBit j) h.2
  simp only [Nat.testBit_and] at this hj
  rw [hj] at this
  simpa using this
theorem GoodT.refl {T : List (List Bool)} (g : GoodT T) {a : Nat} (ha : a < T.length) : tb T a a = true := by
  have := (g.ord a ha).1
  rw [upT_test] at this
  simp at this
  exact this.2
theorem GoodT.bestU {T : List (List Bool)} (g : GoodT T) {a b : Nat} (ha : a < T.length) (hb : b < T.length) : ∃ i, IsB (upT T) a b i := by
  rcases Nat.lt_trichotomy a b with h | h | h
  · obtain ⟨i, hi⟩ := (g.best b hb a h).1; exact ⟨i, IsB.comm hi⟩
  · subst h; exact ⟨a, by rw [Nat.and_self, upT_test]; simp [ha, g.refl ha], by rw [Nat.and_self, Nat.and_self]⟩
  · exact (g.best a ha b h).1
theorem GoodT.bestD {T : List (List Bool)} (g : GoodT T) {a b : Nat} (ha : a < T.length) (hb : b < T.length) : ∃ i, IsB (dnT T) a b i := by
  rcases Nat.lt_trichotomy a b with h | h | h
  · obtain ⟨i, hi⟩ := (g.best b hb a h).2; exact ⟨i, IsB.comm hi⟩
  · subst h; exact ⟨a, by rw [Nat.and_self, dnT_test]; simp [ha, g.refl ha], by rw [Nat.and_self, Nat.and_self]⟩
  · exact (g.best a ha b h).2
open Classical in
noncomputable def jn (T : List (List Bool)) (a b : Nat) : Nat := if h : ∃ i, IsB (upT T) a b i then Classical.choose h else 0
open Classical in
noncomputable def mt (T : List (List Bool)) (a b : Nat) : Nat := if h : ∃ i, IsB (dnT T) a b i then Classical.choose h else 0
theorem jn_is {T : List (List Bool)} (g : GoodT T) {a b : Nat} (ha : a < T.length) (hb : b < T.length) : IsB (upT T) a b (jn T a b) := by
  unfold jn; rw [dif_pos (g.bestU ha hb)]; exact Classical.choose_spec (g.bestU ha hb)
theorem mt_is {T : List (List Bool)} (g : GoodT T) {a b : Nat} (ha : a < T.length) (hb : b < T.length) : IsB (dnT T) a b (mt T a b) := by
  unfold mt; rw [dif_pos (g.bestD ha hb)]; exact Classical.choose_spec (g.bestD ha hb)
theorem jn_eq {T : List (List Bool)} (g : GoodT T) {a b i : Nat} (ha : a < T.length) (hb : b < T.length) (h : IsB (upT T) a b i) : i = jn T a b :=
  g.up_anti (h.sub (jn_is g ha hb).1) ((jn_is g ha hb).sub h.1)
theorem mt_eq {T : List (List Bool)} (g : GoodT T) {a b i : Nat} (ha : a < T.length) (hb : b < T.length) (h : IsB (dnT T) a b i) : i = mt T a b :=
  g.dn_anti (h.sub (mt_is g ha hb).1) ((mt_is g ha hb).sub h.1)
theorem jn_lt {T : List (List Bool)} (g : GoodT T) {a b : Nat} (ha : a < T.length) (hb : b < T.length) : jn T a b < T.length := by
  have := (jn_is g ha hb).1
  rw [Nat.testBit_and, upT_test] at this
  simp at this; exact this.1.1.2
theorem mt_lt {T : List (List Bool)} (g : GoodT T) {a b : Nat} (ha : a < T.length) (hb : b < T.length) : mt T a b < T.length := by
  have := (mt_is g ha hb).1
  rw [Nat.testBit_and, dnT_test] at this
  simp at this; exact this.1.1.2
theorem upT_lt64 {T : List (List Bool)} (g : GoodT T) (x : Nat) : at' (upT T) x < M64 := lt64_of_bits (n := T.length) (fun j hj => by rw [upT_test] at hj; simp at hj; exact hj.1.2) g.hi
theorem dnT_lt64 {T : List (List Bool)} (g : GoodT T) (x : Nat) : at' (dnT T) x < M64 := lt64_of_bits (n := T.length) (fun j hj => by rw [dnT_test] at hj; simp at hj; exact hj.1.2) g.hi
/-- From the last label on, with each of the first 'k'. -/
def foldK (F : Nat → Nat → Nat) (n k : Nat) : Nat := (List.range k).foldl F (n - 1)
theorem foldK_lt {F : Nat → Nat → Nat} {n : Nat} (hn : 0 < n) (hF : ∀ a b, a < n → b < n → F a b < n) : ∀ k, k ≤ n → foldK F n k < n
  | 0, _ => by simp [foldK]; omega
  | k + 1, h => by
    have := foldK_lt hn hF k (by omega)
    unfold foldK at this ⊢
    rw [List.range_succ, List.foldl_append]
    exact hF _ _ this (by omega)
/-- The highest, the lowest label, as they are found. -/
noncomputable def tp (T : List (List Bool)) : Nat := foldK (jn T) T.length T.length
noncomputable def bt (T : List (List Bool)) : Nat := foldK (mt T) T.length T.length
variable {T : List (List Bool)}
theorem upT_tb {x y : Nat} (hx : x < T.length) (hy : y < T.length) : (at' (upT T) x).testBit y = tb T x y := by rw [upT_test]; simp [hx, hy]
theorem dnT_tb {x y : Nat} (hx : x < T.length) (hy : y < T.length) : (at' (dnT T) x).testBit y = tb T y x := by rw [dnT_test]; simp [hx, hy]
theorem GoodT.anti (g : GoodT T) {a b : Nat} (ha : a < T.length) (hb : b < T.length) (h1 : tb T a b = true) (h2 : tb T b a = true) : a = b := g.up_anti (by rw [upT_tb ha hb]; exact h1) (by rw [upT_tb hb ha]; exact h2)
theorem GoodT.trans (g : GoodT T) {a b c : Nat} (ha : a < T.length) (hb : b < T.length) (hc : c < T.length) (h1 : tb T a b = true) (h2 : tb T b c = true) : tb T a c = true := by
  have := (nandN_zero _ _ (upT_lt64 g b) (upT_lt64 g a)).1 ((g.ord a ha).2.2 b (by rw [upT_tb ha hb]; exact h1)) c (by rw [upT_tb hb hc]; exact h2)
  rwa [upT_tb ha hc] at this
/-- The lowest above two; the highest below two. -/
def LubT (T : List (List Bool)) (a b x : Nat) : Prop := x < T.length ∧ tb T a x = true ∧ tb T b x = true ∧ ∀ y, y < T.length → tb T a y = true → tb T b y = true → tb T x y = true
def GlbT (T : List (List Bool)) (a b x : Nat) : Prop := x < T.length ∧ tb T x a = true ∧ tb T x b = true ∧ ∀ y, y < T.length → tb T y a = true → tb T y b = true → tb T y x = true
theorem isB_up {a b x : Nat} (ha : a < T.length) (hb : b < T.length) : IsB (upT T) a b x ↔ LubT T a b x := by
  constructor
  · intro h
    have h1 := h.1
    rw [Nat.testBit_and, upT_test, upT_test] at h1
    simp at h1
    refine ⟨h1.1.1.2, h1.1.2, h1.2.2, fun y hy h3 h4 => ?_⟩
    have := h.sub (j := y) (by rw [Nat.testBit_and, upT_tb ha hy, upT_tb hb hy, h3, h4]; rfl)
    rwa [upT_tb h1.1.1.2 hy] at this
  · rintro ⟨hx, h1, h2, h3⟩
    refine ⟨by rw [Nat.testBit_and, upT_tb ha hx, upT_tb hb hx, h1, h2]; rfl, Nat.eq_of_testBit_eq fun j => ?_⟩
    rw [Nat.testBit_and]
    by_cases hj : j < T.length
    · rw [Nat.testBit_and, upT_tb hx hj, upT_tb ha hj, upT_tb hb hj]
      cases e1 : tb T a j <;> cases e2 : tb T b j <;> simp
      exact h3 j hj e1 e2
    · rw [Nat.testBit_and, upT_test, upT_test, upT_test]; simp [hj]
theorem isB_dn {a b x : Nat} (ha : a < T.length) (hb : b < T.length) : IsB (dnT T) a b x ↔ GlbT T a b x := by
  constructor
  · intro h
    have h1 := h.1
    rw [Nat.testBit_and, dnT_test, dnT_test] at h1
    simp at h1
    refine ⟨h1.1.1.2, h1.1.2, h1.2.2, fun y hy h3 h4 => ?_⟩
    have := h.sub (j := y) (by rw [Nat.testBit_and, dnT_tb ha hy, dnT_tb hb hy, h3, h4]; rfl)
    rwa [dnT_tb h1.1.1.2 hy] at this
  · rintro ⟨hx, h1, h2, h3⟩
    refine ⟨by rw [Nat.testBit_and, dnT_tb ha hx, dnT_tb hb hx, h1, h2]; rfl, Nat.eq_of_testBit_eq fun j => ?_⟩
    rw [Nat.testBit_and]
    by_cases hj : j < T.length
    · rw [Nat.testBit_and, dnT_tb hx hj, dnT_tb ha hj, dnT_tb hb hj]
      cases e1 : tb T j a <;> cases e2 : tb T j b <;> simp
      exact h3 j hj e1 e2
    · rw [Nat.testBit_and, dnT_test, dnT_test, dnT_test]; simp [hj]
theorem jn_lub (g : GoodT T) {a b : Nat} (ha : a < T.length) (hb : b < T.length) : LubT T a b (jn T a b) := (isB_up ha hb).1 (jn_is g ha hb)
theorem mt_glb (g : GoodT T) {a b : Nat} (ha : a < T.length) (hb : b < T.length) : GlbT T a b (mt T a b) := (isB_dn ha hb).1 (mt_is g ha hb)
theorem jn_of (g : GoodT T) {a b x : Nat} (ha : a < T.length) (hb : b < T.length) (h : LubT T a b x) : jn T a b = x := (jn_eq g ha hb ((isB_up ha hb).2 h)).symm
theorem mt_of (g : GoodT T) {a b x : Nat} (ha : a < T.length) (hb : b < T.length) (h : GlbT T a b x) : mt T a b = x := (mt_eq g ha hb ((isB_dn ha hb).2 h)).symm
/-! ### Top and bottom -/
theorem foldK_succ (F : Nat → Nat → Nat) (n k : Nat) : foldK F n (k + 1) = F (foldK F n k) k := by unfold foldK; rw [List.range_succ, List.foldl_append]; rfl
theorem jfold (g : GoodT T) : ∀ k, k ≤ T.length → foldK (jn T) T.length k < T.length ∧ ∀ a, a < k → tb T a (foldK (jn T) T.length k) = true
  | 0, _ => ⟨foldK_lt g.lo (fun a b ha hb => jn_lt g ha hb) 0 (by omega), fun a h => by omega⟩
  | k + 1, h => by
    obtain ⟨h1, h2⟩ := jfold g k (by omega)
    have hl := jn_lub g h1 (show k < T.length from h)
    rw [foldK_succ]
    refine ⟨hl.1, fun a ha => ?_⟩
    by_cases hk : a = k
    · subst hk; exact hl.2.2.1
    · exact g.trans (by omega) h1 hl.1 (h2 a (by omega)) hl.2.1
theorem mfold (g : GoodT T) : ∀ k, k ≤ T.length → foldK (mt T) T.length k < T.length ∧ ∀ a, a < k → tb T (foldK (mt T) T.length k) a = true
  | 0, _ => ⟨foldK_lt g.lo (fun a b ha hb => mt_lt g ha hb) 0 (by omega), fun a h => by omega⟩
  | k + 1, h => by
    obtain ⟨h1, h2⟩ := mfold g k (by omega)
    have hl := mt_glb g h1 (show k < T.length from h)
    rw [foldK_succ]
    refine ⟨hl.1, fun a ha => ?_⟩
    by_cases hk : a = k
    · subst hk; exact hl.2.2.1
    · exact g.trans hl.1 h1 (by omega) hl.2.1 (h2 a (by omega))
theorem tp_lt (g : GoodT T) : tp T < T.length := (jfold g _ (Nat.le_refl _)).1
theorem bt_lt (g : GoodT T) : bt T < T.length := (mfold g _ (Nat.le_refl _)).1
theorem tp_top (g : GoodT T) {a : Nat} (ha : a < T.length) : tb T a (tp T) = true := (jfold g _ (Nat.le_refl _)).2 a ha
theorem bt_bot (g : GoodT T) {a : Nat} (ha : a < T.length) : tb T (bt T) a = true := (mfold g _ (Nat.le_refl _)).2 a ha
theorem tp_of (g : GoodT T) {x : Nat} (hx : x < T.length) (h : ∀ a, a < T.length → tb T a x = true) : tp T = x := g.anti (tp_lt g) hx (h _ (tp_lt g)) (tp_top g hx)
theorem bt_of (g : GoodT T) {x : Nat} (hx : x < T.length) (h : ∀ a, a < T.length → tb T x a = true) : bt T = x := g.anti (bt_lt g) hx (bt_bot g hx) (h _ (bt_lt g))
/-- What makes a table a lattice, in words. -/
structure PO (T : List (List Bool)) : Prop where
  refl : ∀ a, a < T.length → tb T a a = true
  anti : ∀ a b, a < T.length → b < T.length → tb T a b = true → tb T b a = true → a = b
  trans : ∀ a b c, a < T.length → b < T.length → c < T.length → tb T a b = true → tb T b c = true → tb T a c = true
  lub : ∀ a b, a < T.length → b < T.length → ∃ x, LubT T a b x
  glb : ∀ a b, a < T.length → b < T.length → ∃ x, GlbT T a b x
theorem PO.good (h : PO T) (h1 : 1 ≤ T.length) (h2 : T.length ≤ 64) (hr : ∀ r ∈ T, r.length = T.length) : GoodT T := by
  have hul : ∀ x, at' (upT T) x < M64 := fun x => lt64_of_bits (n := T.length) (fun j hj => by rw [upT_test] at hj; simp at hj; exact hj.1.2) h2
  refine ⟨h1, h2, hr, fun a ha => ⟨by rw [upT_tb ha ha]; exact h.refl a ha, Nat.eq_of_testBit_eq fun j => ?_, fun c hc => ?_⟩, fun a ha b hb => ⟨?_, ?_⟩⟩
  · rw [Nat.testBit_and, Nat.testBit_two_pow]
    by_cases hj : j < T.length
    · rw [upT_tb ha hj, dnT_tb ha hj]
      by_cases e : a = j
      · subst e; simp [h.refl a ha]
      · cases e1 : tb T a j <;> cases e2 : tb T j a <;> simp [e]
        exact absurd (h.anti a j ha hj e1 e2) e
    · have : ¬ a = j := by omega
      rw [upT_test]; simp [hj, this]
  · rw [nandN_zero _ _ (hul c) (hul a)]
    intro j hj
    rw [upT_test] at hc hj ⊢
    simp at hc hj ⊢
    exact ⟨⟨ha, hj.1.2⟩, h.trans a c j ha hc.1.2 hj.1.2 hc.2 hj.2⟩
  · obtain ⟨x, hx⟩ := h.lub a b ha (by omega)
    exact ⟨x, (isB_up ha (by omega)).2 hx⟩
  · obtain ⟨x, hx⟩ := h.glb a b ha (by omega)
    exact ⟨x, (isB_dn ha (by omega)).2 hx⟩
end Go.Proofs.YtjncbipaikmogaaDoor.Latt
