/- Whole numbers as a map's keys; a map from numbers to numbers. -/
import Derived.Test.YtbcfhiohdamcjaaAmSym
set_option linter.unusedSimpArgs false
set_option linter.unusedVariables false
set_option linter.unusedSectionVars false
set_option linter.unnecessarySimpa false
namespace Am
open Go Go.RowKit
/-- Where a number stands. -/
def placeI (z : Int) : List Int → Option Nat
  | [] => none
  | t :: ts => if t = z then some 0 else (placeI z ts).map (· + 1)
theorem placeI_some {z : Int} : ∀ {ks : List Int} {j : Nat}, placeI z ks = some j → ks[j]? = some z
  | t :: ts, j, h => by
    simp only [placeI] at h
    split at h
    · rename_i e; cases h; rw [← e]; rfl
    · obtain ⟨i, hi, rfl⟩ := Option.map_eq_some_iff.1 h
      simpa using placeI_some hi
theorem placeI_append {z t : Int} : ∀ {ks : List Int}, placeI z (ks ++ [t]) = match placeI z ks with | some j => some j | none => if t = z then some ks.length else none
  | [] => by simp [placeI]
  | k :: ks => by
    simp only [List.cons_append, placeI, placeI_append (ks := ks), List.length_cons]
    by_cases h : k = z
    · simp [h]
    · simp only [if_neg h]
      cases placeI z ks with
      | some j => rfl
      | none => by_cases h2 : t = z <;> simp [h2]
theorem findNow_int (k : IntKind) (z : Int) : ∀ (ks : List Int) (i : Nat), Instr.findNow (.int k) (.int k z) ((ks.map fun t => (Value.int k t)).map fun x => ⟨x, .nilFunc, 0⟩) i = some ((placeI z ks).map fun j => (i + j, .nilFunc))
  | [], i => rfl
  | t :: ts, i => by
    simp only [List.map_cons, Instr.findNow, Instr.sameNow, if_true]
    by_cases h : z = t
    · subst h; simp [placeI]
    · have h' : ¬ t = z := fun e => h e.symm
      have hb : (z == t) = false := by simpa using h
      rw [hb]
      simp only
      rw [findNow_int k z ts (i + 1)]
      simp only [placeI, if_neg h', Option.map_map]
      congr 1
      cases placeI z ts with
      | none => rfl
      | some j => simp; omega
theorem pureRun_under {P : Program} {t : TypeId} {d : TypeDesc} (hk : P.underlying t = some d) : pureRun P (Go.underlying t) = some d :=
  pureRun_bind_mk (q := P) rfl (by simp only [hk]; rfl)
theorem findEv_int {P : Program} {key : TypeId} {k : IntKind} (hk : P.underlying key = some (.int k)) (z : Int) (es : List AEntry) (ks : List Int) (he : es.map (·.key) = ks.map (AV.int k)) : findEv P key (.int k z) es = some (placeI z ks) := by
  have hm : es.mapM (fun e => conc e.key) = some (ks.map fun t => (Value.int k t)) := by
    have : es.mapM (fun e => conc e.key) = (es.map (·.key)).mapM conc := by rw [List.mapM_map]; rfl
    rw [this, he]
    clear this he
    induction ks with
    | nil => rfl
    | cons t ts ih => simp only [List.map_cons, List.mapM_cons, ih]; rfl
  have hc : ∀ e, pureRun P (Instr.checkKey e 10000 key (.int k z)) = some () := fun e => pureRun_bind_mk (pureRun_under hk) rfl
  have hf : pureRun P (Instr.findKey key (.int k z) ((ks.map fun t => (Value.int k t)).map fun x => ⟨x, .nilFunc, 0⟩)) = some ((placeI z ks).map fun j => (0 + j, .nilFunc)) :=
    pureRun_bind_mk (pureRun_under hk) (by rw [findNow_int]; rfl)
  have h0 : conc (.int k z) = some (.int k z) := rfl
  unfold findEv
  rw [h0, hm]
  dsimp only
  rw [hc, hc]
  dsimp only
  rw [hf]
  cases placeI z ks with
  | none => rfl
  | some j => simp
/-- Entries from numbers to numbers. -/
def lookI (ks vs : List Int) (z : Int) : Int := match placeI z ks with
  | some j => vs.getD j 0
  | none => 0
def updI (f : Int → Int) (z v : Int) : Int → Int := fun y => if y = z then v else f y
def MapI (es : List AEntry) (f : Int → Int) : Prop := ∃ ks vs : List Int, es.map (·.key) = ks.map (AV.int .i64) ∧ es.map (·.val) = vs.map (AV.int .i64) ∧ f = lookI ks vs
theorem MapI.nil : MapI [] (fun _ => 0) := ⟨[], [], rfl, rfl, rfl⟩
theorem MapI.find {P : Program} {key : TypeId} (hk : P.underlying key = some (.int .i64)) {es : List AEntry} {f : Int → Int} (h : MapI es f) (z : Int) :
    (findEv P key (.int .i64 z) es = some none ∧ f z = 0 ∧ ∀ v n, MapI (es ++ [⟨.int .i64 z, .int .i64 v, n⟩]) (updI f z v)) ∨
    ∃ j en, findEv P key (.int .i64 z) es = some (some j) ∧ es[j]? = some en ∧ en.val = .int .i64 (f z) ∧ en.key = .int .i64 z ∧ ∀ v n, MapI (es.set j ⟨.int .i64 z, .int .i64 v, n⟩) (updI f z v) := by
  obtain ⟨ks, vs, hks, hvs, rfl⟩ := h
  have hl1 : es.length = ks.length := by simpa using congrArg List.length hks
  have hl2 : es.length = vs.length := by simpa using congrArg List.length hvs
  have hf := findEv_int hk z es ks hks
  cases hp : placeI z ks with
  | none =>
    rw [hp] at hf
    refine .inl ⟨hf, by simp [lookI, hp], fun v n => ⟨ks ++ [z], vs ++ [v], by simp [hks], by simp [hvs], ?_⟩⟩
    funext y
    unfold updI lookI
    rw [placeI_append]
    by_cases hy : y = z
    · subst hy
      simp [hp, ← hl1, hl2]
    · have hy' : ¬ z = y := fun e => hy e.symm
      simp only [if_neg hy, if_neg hy']
      cases hq : placeI y ks with
      | none => rfl
      | some j =>
        have := (List.getElem?_eq_some_iff.1 (placeI_some hq)).1
        simp only [List.getD_eq_getElem?_getD]
        rw [List.getElem?_append_left (by omega)]
  | some j =>
    rw [hp] at hf
    have hj := placeI_some hp
    have hjl := (List.getElem?_eq_some_iff.1 hj).1
    obtain ⟨en, hen⟩ : ∃ en, es[j]? = some en := ⟨_, List.getElem?_eq_getElem (by omega)⟩
    have hv : en.val = .int .i64 (lookI ks vs z) := by
      have h1 : (es.map (·.val))[j]? = some en.val := by rw [List.getElem?_map, hen]; rfl
      rw [hvs, List.getElem?_map] at h1
      obtain ⟨v, hv1, hv2⟩ := Option.map_eq_some_iff.1 h1
      rw [← hv2]
      simp [lookI, hp, hv1]
    have hkk : en.key = .int .i64 z := by
      have h1 : (es.map (·.key))[j]? = some en.key := by rw [List.getElem?_map, hen]; rfl
      rw [hks, List.getElem?_map, hj] at h1
      simpa using h1.symm
    refine .inr ⟨j, en, hf, hen, hv, hkk, fun v n => ⟨ks, vs.set j v, ?_, by simp [List.map_set, hvs], ?_⟩⟩
    · rw [List.map_set, hks]
      show (ks.map (AV.int .i64)).set j (AV.int .i64 z) = _
      apply List.ext_getElem?
      intro i
      rw [List.getElem?_set]
      by_cases hij : j = i
      · subst hij; simp [hjl, hj]; exact (List.getElem?_eq_some_iff.1 hj).2.symm
      · simp [hij]
    · funext y
      unfold updI lookI
      by_cases hy : y = z
      · subst hy
        simp [hp, ← hl2, hl1, hjl]
      · simp only [if_neg hy]
        cases hq : placeI y ks with
        | none => rfl
        | some i =>
          have hi := placeI_some hq
          have hne : ¬ j = i := by rintro rfl; rw [hj] at hi; cases hi; exact hy rfl
          simp [List.getD_eq_getElem?_getD, List.getElem?_set, hne]
theorem stays_int (k : IntKind) (z : Int) : staysEv (.int k z) (.int k z) = true := by
  show Instr.sameBits 10000 (.int k z) (.int k z) = true
  simp [Instr.sameBits]
end Am
