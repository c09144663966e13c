/- Pairs of whole numbers as a map's keys. -/
import Derived.Test.YtgdmalobagncpaaDoorAmInts
set_option linter.unusedSimpArgs false
set_option linter.unusedVariables false
set_option linter.unusedSectionVars false
set_option linter.unnecessarySimpa false
namespace Am
open Go Go.RowKit
theorem prb {P : Program} {α β : Type} (s : Sem α) (f : α → Sem β) : pureRun P (s >>= f) = (pureRun P s).bind fun q => pureRun P (f q) := by
  cases h : pureRun P s with
  | some q =>
    cases h2 : pureRun P (f q) with
    | some r => rw [pureRun_bind_mk h h2]; simp [h2]
    | none =>
      cases h3 : pureRun P (s >>= f) with
      | none => simp [h2]
      | some r => obtain ⟨q', h4, h5⟩ := pureRun_bind h3; rw [h] at h4; cases h4; rw [h2] at h5; cases h5
  | none =>
    cases h3 : pureRun P (s >>= f) with
    | none => rfl
    | some r => obtain ⟨q', h4, _⟩ := pureRun_bind h3; rw [h] at h4; cases h4
theorem prp {P : Program} {α : Type} (a : α) : pureRun P (pure a) = some a := rfl
/-- A cell's size. -/
theorem pr_size {P : Program} {t : TypeId} {i : TypeInfo} (h : P.info? t = some i) : pureRun P (Go.sizeOf t) = some i.size := by
  have h1 : pureRun P (typeInfo t) = some i := pureRun_bind_mk (q := P) rfl (by simp only [h]; rfl)
  exact pureRun_bind_mk h1 rfl
/-- A type of two whole numbers. -/
structure TwoInt (P : Program) (t e : TypeId) : Prop where
  arr : P.underlying t = some (.array 2 e)
  int : P.underlying e = some (.int .i64)
  size : ∃ i, P.info? e = some i ∧ i.size = 1
def pairV (x : Int × Int) : Value := .agg #[.int .i64 x.1, .int .i64 x.2]
def pairA (x : Int × Int) : AV := .agg [.int .i64 x.1, .int .i64 x.2]
theorem pr_part {P : Program} {t e : TypeId} (h : TwoInt P t e) (cs : Array Value) (k : Nat) (v : Value) (hv : cs[k]? = some v) : pureRun P (part e cs k) = some v := by
  unfold part Go.isAgg
  simp only [prb, pureRun_under h.int, Option.bind_some, prp, Bool.false_eq_true, if_false, hv]
theorem pr_equal {P : Program} {t e : TypeId} (h : TwoInt P t e) (x y : Int × Int) : pureRun P (Op.equal t (pairV x) (pairV y)) = some (decide (x = y)) := by
  obtain ⟨a, b⟩ := x
  obtain ⟨c, d⟩ := y
  obtain ⟨i, hi, hs⟩ := h.size
  have q0 := fun (z w : Int) => pr_part h #[.int .i64 z, .int .i64 w] 0 _ rfl
  have q1 := fun (z w : Int) => pr_part h #[.int .i64 z, .int .i64 w] 1 _ rfl
  have q2 : ∀ z w, pureRun P (Op.equalIn 9999 e (.int .i64 z) (.int .i64 w)) = some (z == w) := fun z w => by
    rw [show (9999 : Nat) = 9998 + 1 from rfl, Op.equalIn]
    simp only [prb, pureRun_under h.int, Option.bind_some, if_true, prp]
  unfold Op.equal Op.maxDepth pairV
  rw [show (10000 : Nat) = 9999 + 1 from rfl, Op.equalIn]
  simp only [prb, pureRun_under h.arr, Option.bind_some, pr_size hi, hs]
  simp only [Std.Legacy.Range.forIn_eq_forIn_range', Std.Legacy.Range.size, Nat.sub_zero, Nat.add_sub_cancel, Nat.div_one, List.range'_succ, List.range'_zero, List.forIn_cons, List.forIn_nil]
  simp only [prb, q0, q1, q2, Option.bind_some, Nat.zero_mul, Nat.zero_add, Nat.one_mul]
  by_cases h1 : a = c <;> by_cases h2 : b = d <;> simp [h1, h2, prb, prp, q0, q1, q2]
def placeP (z : Int × Int) : List (Int × Int) → Option Nat
  | [] => none
  | t :: ts => if t = z then some 0 else (placeP z ts).map (· + 1)
theorem pr_find {P : Program} {t e : TypeId} (h : TwoInt P t e) (z : Int × Int) : ∀ (ks : List (Int × Int)) (i : Nat), pureRun P (Instr.findAsking t (pairV z) ((ks.map pairV).map fun x => ⟨x, .nilFunc, 0⟩) i) = some ((placeP z ks).map fun j => (i + j, .nilFunc))
  | [], i => rfl
  | k :: ks, i => by
    simp only [List.map_cons, Instr.findAsking, prb, pr_equal h, Option.bind_some]
    by_cases hk : z = k
    · simp [hk, placeP, prp]
    · have hk' : ¬ k = z := fun e => hk e.symm
      simp only [hk, decide_false, Bool.false_eq_true, if_false, placeP, if_neg hk']
      rw [pr_find h z ks (i + 1)]
      cases placeP z ks with
      | none => rfl
      | some j => simp; omega
theorem pr_check {P : Program} {t e : TypeId} (h : TwoInt P t e) (em : Bool) (z : Int × Int) : pureRun P (Instr.checkKey em 10000 t (pairV z)) = some () := by
  obtain ⟨a, b⟩ := z
  obtain ⟨i, hi, hs⟩ := h.size
  have q0 := fun (z w : Int) => pr_part h #[.int .i64 z, .int .i64 w] 0 _ rfl
  have q1 := fun (z w : Int) => pr_part h #[.int .i64 z, .int .i64 w] 1 _ rfl
  have q2 : ∀ z, pureRun P (Instr.checkKey em 9999 e (.int .i64 z)) = some () := fun z => by
    rw [show (9999 : Nat) = 9998 + 1 from rfl, Instr.checkKey]
    simp only [prb, pureRun_under h.int, Option.bind_some, prp]
  unfold pairV
  rw [show (10000 : Nat) = 9999 + 1 from rfl, Instr.checkKey]
  simp only [prb, pureRun_under h.arr, Option.bind_some]
  simp only [Std.Legacy.Range.forIn_eq_forIn_range', Std.Legacy.Range.size, Nat.sub_zero, Nat.add_sub_cancel, Nat.div_one, List.range'_succ, List.range'_zero, List.forIn_cons, List.forIn_nil]
  simp [prb, prp, pr_size hi, hs, q0, q1, q2]
theorem findEv_pair {P : Program} {t e : TypeId} (h : TwoInt P t e) (z : Int × Int) (es : List AEntry) (ks : List (Int × Int)) (he : es.map (·.key) = ks.map pairA) : findEv P t (pairA z) es = some (placeP z ks) := by
  have hm : es.mapM (fun e => conc e.key) = some (ks.map pairV) := by
    have : es.mapM (fun e => conc e.key) = (es.map (·.key)).mapM conc := by rw [List.mapM_map]; rfl
    rw [this, he]
    clear this he
    induction ks with
    | nil => rfl
    | cons k ks ih => simp only [List.map_cons, List.mapM_cons, ih]; rfl
  have hf : pureRun P (Instr.findKey t (pairV z) ((ks.map pairV).map fun x => ⟨x, .nilFunc, 0⟩)) = some ((placeP z ks).map fun j => (0 + j, .nilFunc)) := by
    cases ks with
    | nil => exact pureRun_bind_mk (pureRun_under h.arr) rfl
    | cons k ks => exact pureRun_bind_mk (pureRun_under h.arr) (by
        show pureRun P (Instr.findAsking t (pairV z) (((k :: ks).map pairV).map fun x => ⟨x, .nilFunc, 0⟩) 0) = _
        exact pr_find h z (k :: ks) 0)
  have h0 : conc (pairA z) = some (pairV z) := rfl
  unfold findEv
  rw [h0, hm]
  dsimp only
  rw [pr_check h, pr_check h]
  dsimp only
  rw [hf]
  cases placeP z ks with
  | none => rfl
  | some j => simp
theorem placeP_some {z : Int × Int} : ∀ {ks : List (Int × Int)} {j : Nat}, placeP z ks = some j → ks[j]? = some z
  | t :: ts, j, h => by
    simp only [placeP] at h
    split at h
    · rename_i e; cases h; rw [← e]; rfl
    · obtain ⟨i, hi, rfl⟩ := Option.map_eq_some_iff.1 h
      simpa using placeP_some hi
theorem placeP_append {z t : Int × Int} : ∀ {ks : List (Int × Int)}, placeP z (ks ++ [t]) = match placeP z ks with | some j => some j | none => if t = z then some ks.length else none
  | [] => by simp [placeP]
  | k :: ks => by
    simp only [List.cons_append, placeP, placeP_append (ks := ks), List.length_cons]
    by_cases h : k = z
    · simp [h]
    · simp only [if_neg h]
      cases placeP z ks with
      | some j => rfl
      | none => by_cases h2 : t = z <;> simp [h2]
theorem stays_pair (z : Int × Int) : staysEv (pairA z) (pairA z) = true := by
  show Instr.sameBits 10000 (pairV z) (pairV z) = true
  unfold pairV
  simp [Instr.sameBits]
/-- Entries from numbers to numbers. -/
def lookP (ks : List (Int × Int)) (vs : List Int) (z : Int × Int) : Int := match placeP z ks with
  | some j => vs.getD j 0
  | none => 0
def updP (f : Int × Int → Int) (z : Int × Int) (v : Int) : Int × Int → Int := fun y => if y = z then v else f y
def MapP (es : List AEntry) (f : Int × Int → Int) : Prop := ∃ (ks : List (Int × Int)) (vs : List Int), es.map (·.key) = ks.map pairA ∧ es.map (·.val) = vs.map (AV.int .i64) ∧ f = lookP ks vs
theorem MapP.nil : MapP [] (fun _ => 0) := ⟨[], [], rfl, rfl, rfl⟩
theorem MapP.find {P : Program} {key e : TypeId} (hk : TwoInt P key e) {es : List AEntry} {f : Int × Int → Int} (h : MapP es f) (z : Int × Int) :
    (findEv P key (pairA z) es = some none ∧ f z = 0 ∧ ∀ v n, MapP (es ++ [⟨pairA z, .int .i64 v, n⟩]) (updP f z v)) ∨
    ∃ j en, findEv P key (pairA z) es = some (some j) ∧ es[j]? = some en ∧ en.val = .int .i64 (f z) ∧ en.key = pairA z ∧ ∀ v n, MapP (es.set j ⟨pairA z, .int .i64 v, n⟩) (updP f z v) := by
  obtain ⟨ks, vs, hks, hvs, rfl⟩ := h
  have hl1 : es.length = ks.length := by simpa using congrArg List.length hks
  have hl2 : es.length = vs.length := by simpa using congrArg List.length hvs
  have hf := findEv_pair hk z es ks hks
  cases hp : placeP z ks with
  | none =>
    rw [hp] at hf
    refine .inl ⟨hf, by simp [lookP, hp], fun v n => ⟨ks ++ [z], vs ++ [v], by simp [hks], by simp [hvs], ?_⟩⟩
    funext y
    unfold updP lookP
    rw [placeP_append]
    by_cases hy : y = z
    · subst hy
      simp [hp, ← hl1, hl2]
    · have hy' : ¬ z = y := fun e => hy e.symm
      simp only [if_neg hy, if_neg hy']
      cases hq : placeP y ks with
      | none => rfl
      | some j =>
        have := (List.getElem?_eq_some_iff.1 (placeP_some hq)).1
        simp only [List.getD_eq_getElem?_getD]
        rw [List.getElem?_append_left (by omega)]
  | some j =>
    rw [hp] at hf
    have hj := placeP_some hp
    have hjl := (List.getElem?_eq_some_iff.1 hj).1
    obtain ⟨en, hen⟩ : ∃ en, es[j]? = some en := ⟨_, List.getElem?_eq_getElem (by omega)⟩
    have hv : en.val = .int .i64 (lookP ks vs z) := by
      have h1 : (es.map (·.val))[j]? = some en.val := by rw [List.getElem?_map, hen]; rfl
      rw [hvs, List.getElem?_map] at h1
      obtain ⟨v, hv1, hv2⟩ := Option.map_eq_some_iff.1 h1
      rw [← hv2]
      simp [lookP, hp, hv1]
    have hkk : en.key = pairA z := by
      have h1 : (es.map (·.key))[j]? = some en.key := by rw [List.getElem?_map, hen]; rfl
      rw [hks, List.getElem?_map, hj] at h1
      simpa using h1.symm
    refine .inr ⟨j, en, hf, hen, hv, hkk, fun v n => ⟨ks, vs.set j v, ?_, by simp [List.map_set, hvs], ?_⟩⟩
    · rw [List.map_set, hks]
      show (ks.map pairA).set j (pairA z) = _
      apply List.ext_getElem?
      intro i
      rw [List.getElem?_set]
      by_cases hij : j = i
      · subst hij; simp [hjl, hj]; exact congrArg pairA (List.getElem?_eq_some_iff.1 hj).2.symm
      · simp [hij]
    · funext y
      unfold updP lookP
      by_cases hy : y = z
      · subst hy
        simp [hp, ← hl2, hl1, hjl]
      · simp only [if_neg hy]
        cases hq : placeP y ks with
        | none => rfl
        | some i =>
          have hi := placeP_some hq
          have hne : ¬ j = i := by rintro rfl; rw [hj] at hi; cases hi; exact hy rfl
          simp [List.getD_eq_getElem?_getD, List.getElem?_set, hne]
/-- With each entry's number of birth. -/
structure MapB (es : List AEntry) (ck : Nat) (f : Int × Int → Int) : Prop where
  map : MapP es f
  born : ∀ (j : Nat) en, es[j]? = some en → en.born = j
  clock : ck = es.length
theorem MapB.nil : MapB [] 0 (fun _ => 0) := ⟨⟨[], [], rfl, rfl, rfl⟩, fun j en h => by simp at h, rfl⟩
theorem born_find {es : List AEntry} (h : ∀ (j : Nat) en, es[j]? = some en → en.born = j) {j : Nat} (hj : j < es.length) : es.findIdx? (fun x => (x.born : Int) == (j : Int)) = some j := by
  rw [List.findIdx?_eq_some_iff_getElem]
  refine ⟨hj, by rw [h j _ (List.getElem?_eq_getElem hj)]; simp, fun i hi => ?_⟩
  rw [h i _ (List.getElem?_eq_getElem (by omega))]
  simp
  omega
theorem MapB.find {P : Program} {key e : TypeId} (hk : TwoInt P key e) {es : List AEntry} {ck : Nat} {f : Int × Int → Int} (h : MapB es ck f) (z : Int × Int) :
    (findEv P key (pairA z) es = some none ∧ f z = 0 ∧ List.findIdx? (fun x : AEntry => (x.born : Int) == (ck : Int)) (es ++ [⟨pairA z, .int .i64 0, ck⟩]) = some es.length ∧ ∀ v, MapB (es ++ [⟨pairA z, .int .i64 v, ck⟩]) (ck + 1) (updP f z v)) ∨
    ∃ j en, findEv P key (pairA z) es = some (some j) ∧ j < es.length ∧ es[j]? = some en ∧ en.val = .int .i64 (f z) ∧ en.key = pairA z ∧ en.born = j ∧ (∀ v, List.findIdx? (fun x : AEntry => (x.born : Int) == (j : Int)) (es.set j ⟨pairA z, v, j⟩) = some j) ∧ ∀ v, MapB (es.set j ⟨pairA z, .int .i64 v, j⟩) ck (updP f z v) := by
  have hnew : ∀ v, ∀ (j : Nat) (en : AEntry), (es ++ [(⟨pairA z, v, ck⟩ : AEntry)])[j]? = some en → en.born = j := fun v j en he => by
    by_cases hj : j < es.length
    · rw [List.getElem?_append_left hj] at he; exact h.born j en he
    · have hl := (List.getElem?_eq_some_iff.1 he).1
      simp at hl
      obtain rfl : j = es.length := by omega
      simp at he
      rw [← he]
      exact h.clock
  have hset : ∀ (j : Nat) v, ∀ (i : Nat) (en : AEntry), (es.set j (⟨pairA z, v, j⟩ : AEntry))[i]? = some en → en.born = i := fun j v i en he => by
    rw [List.getElem?_set] at he
    by_cases hj : j = i
    · rw [if_pos hj] at he
      split at he
      · cases he; exact hj
      · cases he
    · rw [if_neg hj] at he; exact h.born i en he
  rcases h.map.find hk z with ⟨h1, h2, h3⟩ | ⟨j, en, h1, h2, h3, h4, h5⟩
  · refine .inl ⟨h1, h2, ?_, fun v => ⟨h3 v ck, hnew _, by simp [h.clock]⟩⟩
    have := born_find (hnew (.int .i64 0)) (j := es.length) (by simp)
    rw [h.clock] at this ⊢
    exact this
  · have hj := (List.getElem?_eq_some_iff.1 h2).1
    exact .inr ⟨j, en, h1, hj, h2, h3, h4, h.born j en h2, fun v => born_find (hset j v) (by simpa using hj), fun v => ⟨h5 v j, hset j _, by simp [h.clock]⟩⟩
theorem found_new {P : Program} {key e : TypeId} (hk : TwoInt P key e) {es : List AEntry} {f : Int × Int → Int} (h : MapP es f) {z : Int × Int} (hf : findEv P key (pairA z) es = some none) (v : AV) (n : Nat) :
    findEv P key (pairA z) (es ++ [⟨pairA z, v, n⟩]) = some (some es.length) := by
  obtain ⟨ks, vs, hks, hvs, _⟩ := h
  have hl : es.length = ks.length := by simpa using congrArg List.length hks
  rw [findEv_pair hk z es ks hks] at hf
  have hp : placeP z ks = none := Option.some.inj hf
  rw [findEv_pair hk z _ (ks ++ [z]) (by simp [hks]), placeP_append, hp]
  simp [hl]
theorem found_set {P : Program} {key e : TypeId} (hk : TwoInt P key e) {es : List AEntry} {f : Int × Int → Int} (h : MapP es f) {z : Int × Int} {j : Nat} {en : AEntry} (hf : findEv P key (pairA z) es = some (some j)) (hen : es[j]? = some en) (hek : en.key = pairA z) (v : AV) (n : Nat) :
    findEv P key (pairA z) (es.set j ⟨pairA z, v, n⟩) = some (some j) := by
  obtain ⟨ks, vs, hks, hvs, _⟩ := h
  rw [findEv_pair hk z es ks hks] at hf
  have hkeys : (es.set j ⟨pairA z, v, n⟩).map (·.key) = ks.map pairA := by
    rw [List.map_set, ← hks]
    show (es.map (·.key)).set j (pairA z) = _
    apply List.ext_getElem?
    intro i
    rw [List.getElem?_set]
    by_cases hij : j = i
    · subst hij
      have hl := (List.getElem?_eq_some_iff.1 hen).1
      rw [if_pos rfl, if_pos (by simpa using hl), List.getElem?_map, hen]
      exact congrArg some hek.symm
    · rw [if_neg hij]
  rw [findEv_pair hk z _ ks hkeys, hf]
end Am
