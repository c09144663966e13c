/- A log as it lies there: what is asked of it. -/
import Derived.Test.YtkcddlpmekejkaaDoorLatLook
import Derived.Test.YtkcddlpmekejkaaDoorLatGood
import Derived.Test.YtkcddlpmekejkaaDoorAmApp
namespace Go.Proofs.YtkcddlpmekejkaaDoor.Au
open Go Go.RowKit Am Latt
set_option maxRecDepth 100000
set_option linter.unusedSimpArgs false
set_option linter.unusedVariables false
attribute [-simp] Am.binEv Am.intBin Am.read1
attribute [local simp] binEv_lss binEv_leq binEv_gtr binEv_geq binEv_eql binEv_neq binEv_add binEv_sub binEv_mul binEv_shr58 read1_ro read1_mu
variable {R : Ro}
theorem latK {H H' : AH} {l : Nat} {up dn : List Nat} (h : LatAt R H l up dn) (hk : Keeps H H') : LatAt R H' l up dn := by
  obtain ⟨⟨av, bv, rest, hb, h1, h2⟩, h3, h4, h5, h6, h7⟩ := h
  exact ⟨⟨av, bv, rest, by rw [hk.2 l (List.getElem?_eq_some_iff.1 hb).1]; exact hb, h1.frame hk.2, h2.frame hk.2⟩, h3, h4, h5, h6, h7⟩
abbrev Ent := Int × Int × Int × List UInt8
def cellsE (x : Ent) : List AV := [.int .i64 x.1, .int .i64 x.2.1, .int .i64 x.2.2.1, .str x.2.2.2]
theorem cellsE_len (x : Ent) : (cellsE x).length = 4 := rfl
def flat : List Ent → List AV
  | [] => []
  | x :: E => cellsE x ++ flat E
theorem flat_len : ∀ E : List Ent, (flat E).length = E.length * 4
  | [] => rfl
  | x :: E => by simp [flat, flat_len E, cellsE_len]; omega
theorem flat_app : ∀ E F : List Ent, flat (E ++ F) = flat E ++ flat F
  | [], _ => rfl
  | x :: E, F => by simp [flat, flat_app E F]
theorem flat_one (x : Ent) : flat [x] = cellsE x := by simp [flat]
theorem flat_at : ∀ {E : List Ent} {i : Nat} {x : Ent}, E[i]? = some x → ((flat E).drop (i * 4)).take 4 = cellsE x
  | y :: E, 0, x, h => by
    simp at h
    subst h
    simp only [flat, Nat.zero_mul, List.drop_zero]
    rw [List.take_append_of_le_length (by simp [cellsE_len])]
    exact List.take_of_length_le (by simp [cellsE_len])
  | y :: E, i + 1, x, h => by
    have := flat_at (E := E) (i := i) (x := x) (by simpa using h)
    rw [← this]
    simp only [flat]
    rw [List.drop_append, List.drop_of_length_le (by simp [cellsE_len]; omega), List.nil_append]
    congr 2
    simp [cellsE_len]
    omega
theorem flat_get {E : List Ent} {i : Nat} {x : Ent} (h : E[i]? = some x) {r : Nat} (hr : r < 4) : (flat E)[i * 4 + r]? = (cellsE x)[r]? := by
  rw [← flat_at h, List.getElem?_take, if_pos hr, List.getElem?_drop]
def cntE (E : List Ent) (a : Int) : Nat := (E.filter fun x => decide (x.1 = a)).length
theorem cntE_le (E : List Ent) (a : Int) : cntE E a ≤ E.length := List.length_filter_le _ _
theorem cntE_app (E : List Ent) (x : Ent) (a : Int) : cntE (E ++ [x]) a = cntE E a + if x.1 = a then 1 else 0 := by
  unfold cntE
  rw [List.filter_append, List.length_append]
  by_cases h : x.1 = a <;> simp [h]
def cntsV (E : List Ent) (n : Nat) : List AV := (List.range n).map fun (a : Nat) => AV.int .i64 (cntE E a)
structure GAt (H : AH) (g l k : Nat) (rv : AV) (n : Nat) (E : List Ent) : Prop where
  box : H[g]? = some (.cells [.ptr (.mu l) 0, rv, .slice (.mu k) 0 n (.known n)] 53)
  row : RowAt H rv E.length 4 40 (flat E)
  cnt : H[k]? = some (.cells (cntsV E n) 3)
def Own (g k : Nat) (rv : AV) (i : Nat) : Prop := i = g ∨ i = k ∨ ∃ o n c, rv = .slice (.mu i) o n c
variable {H : AH} {g l k n : Nat} {rv : AV} {E : List Ent}
theorem GAt.frame {H' : AH} (h : GAt H g l k rv n E) (hf : ∀ i, Own g k rv i → H'[i]? = H[i]?) : GAt H' g l k rv n E :=
  ⟨by rw [hf g (.inl rfl)]; exact h.box, h.row.frame fun j hj => hf j (.inr (.inr ⟨_, _, _, hj⟩)), by rw [hf k (.inr (.inl rfl))]; exact h.cnt⟩
theorem GAt.lt (h : GAt H g l k rv n E) {i : Nat} (hi : Own g k rv i) : i < H.length := by
  rcases hi with rfl | rfl | ⟨o, ln, c, e⟩
  · exact (List.getElem?_eq_some_iff.1 h.box).1
  · exact (List.getElem?_eq_some_iff.1 h.cnt).1
  · rcases h.row with ⟨e', _⟩ | ⟨j, e', hj, _⟩
    · rw [e] at e'; cases e'
    · rw [e] at e'; cases e'; exact (List.getElem?_eq_some_iff.1 hj).1
theorem GAt.keeps {H' : AH} (h : GAt H g l k rv n E) (hk : Keeps H H') : GAt H' g l k rv n E := h.frame fun i hi => hk.2 i (h.lt hi)
/-- The entries' slice: none, or a row. -/
theorem GAt.rowc (h : GAt H g l k rv n E) : (rv = .nilslice ∧ E = []) ∨ ∃ j, rv = .slice (.mu j) 0 E.length (.opn 0) ∧ H[j]? = some (.row (flat E) 40 4) := by
  rcases h.row with ⟨e, e2, _⟩ | ⟨j, e, hj, _⟩
  · exact .inl ⟨e, List.length_eq_zero_iff.1 e2⟩
  · exact .inr ⟨j, e, hj⟩
theorem len_at (h : GAt H g l k rv n E) : ACalls Tryd.prog R 16 [.ptr (.mu g) 0] H fun v H' => v = .int .i64 E.length ∧ H' = H := by
  have hb := h.box
  refine ACalls.of_wpE Fns.ok16 (by simp [Fns.a16]) ?_
  rcases h.rowc with ⟨rfl, rfl⟩ | ⟨j, rfl, hj⟩
  · simp [Fns.a16, hb, eqEv]
  · simp [Fns.a16, hb, eqEv]
theorem cntsV_get (E : List Ent) {n a : Nat} (ha : a < n) : (cntsV E n)[a]? = some (.int .i64 (cntE E a)) := by simp [cntsV, ha]
def roomF (n : Nat) (E : List Ent) (a : Int) : Int := if isL n a then 16 - cntE E a else 0
theorem room_at (h : GAt H g l k rv n E) (hE : E.length ≤ 1000) (a : Int) : ACalls Tryd.prog R 14 [.ptr (.mu g) 0, .int .i64 a] H fun v H' => v = .int .i64 (roomF n E a) ∧ H' = H := by
  have hb := h.box
  have hc := h.cnt
  refine ACalls.of_wpE Fns.ok14 (by simp [Fns.a14]) ?_
  by_cases h1 : a < 0
  · have : isL n a = false := by simp [isL]; omega
    simp [Fns.a14, hb, eqEv, h1, roomF, this]
  · by_cases h2 : (n : Int) ≤ a
    · have : isL n a = false := by simp [isL]; omega
      simp [Fns.a14, hb, eqEv, h1, h2, roomF, this]
    · obtain ⟨b, rfl⟩ : ∃ b : Nat, a = b := ⟨a.toNat, by omega⟩
      have hbn : b < n := by omega
      have hbn' : (b : Int) < n := by omega
      have hbn2 : ¬ n ≤ b := by omega
      have : isL n (b : Int) = true := by simp [isL]; omega
      have hle := cntE_le E b
      have hw := i64_small (16 - (cntE E b : Int)) (by omega) (by omega)
      simp [Fns.a14, hb, eqEv, h1, h2, hbn, hbn', hbn2, hc, cntsV_get E hbn, roomF, this, hw]
theorem at_at (h : GAt H g l k rv n E) (a : Int) : ACalls Tryd.prog R 17 [.ptr (.mu g) 0, .int .i64 a] H fun v H' => H' = H ∧ v = match (if 0 ≤ a then E[a.toNat]? else none) with | some x => .tuple [.agg (cellsE x), .bool true] | none => .tuple [.agg [.int .i64 0, .int .i64 0, .int .i64 0, .str []], .bool false] := by
  refine ACalls.gc (ACalls.of_wpE Fns.ok17 (by simp [Fns.a17]) ?_)
  by_cases h1 : a < 0
  · have : ¬ 0 ≤ a := by omega
    simp [Fns.a17, h1, this, fillA, writeN, splice, AO.withContent, ren, renL]
  · have h0 : 0 ≤ a := by omega
    simp [Fns.a17, h1, h0, fillA, writeN, splice, AO.withContent, ren, renL]
    refine (len_at (h.keeps (Keeps.app H [.cells [.int .i64 0, .int .i64 0, .int .i64 0, .str []] 40]))).mono ?_
    rintro v H' ⟨rfl, rfl⟩
    obtain ⟨b, rfl⟩ : ∃ b : Nat, a = b := ⟨a.toNat, by omega⟩
    by_cases h2 : E.length ≤ b
    · have h2' : (E.length : Int) ≤ b := by omega
      have h3 : E[b]? = none := by rw [List.getElem?_eq_none_iff]; exact h2
      simp [h1, h0, h2, h2', h3, fillA, writeN, splice, AO.withContent, ren, renL]
    · have h2' : ¬ (E.length : Int) ≤ b := by omega
      have h2n : b < E.length := by omega
      have h2m : (b : Int) < (E.length : Int) := by omega
      obtain ⟨x, hx⟩ : ∃ x, E[b]? = some x := ⟨_, List.getElem?_eq_getElem h2n⟩
      have hg := (List.getElem?_eq_some_iff.1 h.box).1
      have hb : (H ++ [AO.cells [.int .i64 0, .int .i64 0, .int .i64 0, .str []] 40])[g]? = some (.cells [.ptr (.mu l) 0, rv, .slice (.mu k) 0 n (.known n)] 53) := by rw [List.getElem?_append_left hg]; exact h.box
      have hf := flat_at hx
      have hfl := flat_len E
      rcases h.rowc with ⟨rfl, rfl⟩ | ⟨j, rfl, hj⟩
      · cases hx
      · have hjl := (List.getElem?_eq_some_iff.1 hj).1
        have hj' : (H ++ [AO.cells [.int .i64 0, .int .i64 0, .int .i64 0, .str []] 40])[j]? = some (.row (flat E) 40 4) := by rw [List.getElem?_append_left hjl]; exact hj
        have hrd : readN R (H ++ [AO.cells [.int .i64 0, .int .i64 0, .int .i64 0, .str []] 40]) 4 (.mu j) (b * 4) = some (cellsE x) := by
          simp only [readN, hj', Option.bind_some, AO.content, hf]
          rw [if_pos (by omega)]
        have hfi : b * 4 + 4 ≤ E.length * 4 := by omega
        have hxe : E[b] = x := (List.getElem?_eq_some_iff.1 hx).2
        simp [hx, hxe, hfi, h1, h0, h2, h2', h2n, h2m, hb, hj', hf, hfl, hrd, cellsE, fillA, writeN, splice, AO.withContent, ren, renL]
end Go.Proofs.YtkcddlpmekejkaaDoor.Au
