/- The document's quota: all takes since the last tick. -/
import Derived.Test.YtklnhappoldlnaaKHeap
import Derived.Test.YtklnhappoldlnaaAmSched
namespace Go.Proofs.Ytklnhappoldlnaa.Heap
open Go Go.RowKit Am
set_option maxRecDepth 100000
set_option linter.unusedSimpArgs false
set_option linter.unusedVariables false
variable {R : Ro}
abbrev Tk := List UInt8 × Int
def flat (T : List Tk) : List AV := T.flatMap fun x => [.str x.1, .int .i64 x.2]
theorem flat_len (T : List Tk) : (flat T).length = T.length * 2 := by
  unfold flat
  induction T with
  | nil => rfl
  | cons x T ih => simp only [List.flatMap_cons, List.length_append, List.length_cons, List.length_nil, ih]; omega
theorem flat_get : ∀ (T : List Tk) (i : Nat) (x : Tk), T[i]? = some x → (flat T)[i * 2]? = some (.str x.1) ∧ (flat T)[i * 2 + 1]? = some (.int .i64 x.2)
  | [], i, x, h => by simp at h
  | y :: T, 0, x, h => by simp at h; subst h; exact ⟨rfl, rfl⟩
  | y :: T, i + 1, x, h => by
    simp only [List.getElem?_cons_succ] at h
    obtain ⟨h1, h2⟩ := flat_get T i x h
    have e : (i + 1) * 2 = i * 2 + 2 := by omega
    rw [e]
    exact ⟨h1, h2⟩
/-- How much of all was taken for a key. -/
def tot (T : List Tk) (k : List UInt8) : Int := (T.map fun x => if x.1 = k then x.2 else 0).sum
def newKey (T : List Tk) (x : Tk) : Bool := decide (0 < x.2) && !(T.any fun y => decide (y.1 = x.1) && decide (0 < y.2))
def cntN (T : List Tk) : Nat → Nat
  | 0 => 0
  | n + 1 => cntN T n + (match T[n]? with
    | some x => if newKey (T.take n) x then 1 else 0
    | none => 0)
structure Ref (H : AH) (q : Nat) (most : Int) (T : List Tk) (own : List Nat) : Prop where
  box : ∃ s, H[q]? = some (.cells [.int .i64 most, s] 43) ∧ ((T = [] ∧ s = .nilslice ∧ own = [q]) ∨ ∃ r, s = .slice (.mu r) 0 T.length (.opn 0) ∧ H[r]? = some (.row (flat T) 69 2) ∧ r ≠ q ∧ own = [q, r])
  pos : ∀ x ∈ T, 0 ≤ x.2
theorem Ref.frame {H H' : AH} {q : Nat} {most : Int} {T : List Tk} {own : List Nat} (h : Ref H q most T own) (hf : ∀ i ∈ own, H'[i]? = H[i]?) : Ref H' q most T own := by
  obtain ⟨⟨s, h1, h2⟩, hp⟩ := h
  rcases h2 with ⟨rfl, rfl, rfl⟩ | ⟨r, rfl, h3, h4, rfl⟩
  · exact ⟨⟨_, by rw [hf q (by simp)]; exact h1, .inl ⟨rfl, rfl, rfl⟩⟩, hp⟩
  · exact ⟨⟨_, by rw [hf q (by simp)]; exact h1, .inr ⟨r, rfl, by rw [hf r (by simp)]; exact h3, h4, rfl⟩⟩, hp⟩
theorem Ref.lt {H : AH} {q : Nat} {most : Int} {T : List Tk} {own : List Nat} (h : Ref H q most T own) : ∀ i ∈ own, i < H.length := by
  obtain ⟨⟨s, h1, h2⟩, hp⟩ := h
  intro i hi
  rcases h2 with ⟨rfl, rfl, rfl⟩ | ⟨r, rfl, h3, h4, rfl⟩
  · simp at hi; subst hi; exact (List.getElem?_eq_some_iff.1 h1).1
  · simp at hi
    rcases hi with rfl | rfl
    · exact (List.getElem?_eq_some_iff.1 h1).1
    · exact (List.getElem?_eq_some_iff.1 h3).1
/-- What is read off it. -/
theorem Ref.reads {H : AH} {q : Nat} {most : Int} {T : List Tk} {own : List Nat} (h : Ref H q most T own) : ∃ s, H[q]? = some (.cells [.int .i64 most, s] 43) ∧ ((T = [] ∧ s = .nilslice) ∨ (∃ r, s = .slice (.mu r) 0 T.length (.opn 0) ∧ H[r]? = some (.row (flat T) 69 2))) := by
  obtain ⟨⟨s, h1, h2⟩, hp⟩ := h
  refine ⟨s, h1, ?_⟩
  rcases h2 with ⟨rfl, rfl, _⟩ | ⟨r, rfl, h3, _, _⟩
  · exact .inl ⟨rfl, rfl⟩
  · exact .inr ⟨r, rfl, h3⟩
theorem tot_nn {T : List Tk} (hp : ∀ x ∈ T, 0 ≤ x.2) (k : List UInt8) : 0 ≤ tot T k := by
  induction T with
  | nil => exact Int.le_refl _
  | cons x T ih =>
    have h1 := hp x (List.mem_cons_self ..)
    have h2 := ih fun y hy => hp y (List.mem_cons_of_mem _ hy)
    unfold tot at *
    simp only [List.map_cons, List.sum_cons]
    split <;> omega
theorem tot_append (A B : List Tk) (k : List UInt8) : tot (A ++ B) k = tot A k + tot B k := by
  unfold tot; simp
theorem tot_take (T : List Tk) (k : List UInt8) {i : Nat} {x : Tk} (h : T[i]? = some x) : tot (T.take (i + 1)) k = tot (T.take i) k + (if x.1 = k then x.2 else 0) := by
  have hi := (List.getElem?_eq_some_iff.1 h).1
  have hx : T[i] = x := (List.getElem?_eq_some_iff.1 h).2
  rw [List.take_succ_eq_append_getElem hi, tot_append, hx]
  simp [tot]
theorem tot_take_le {T : List Tk} (hp : ∀ x ∈ T, 0 ≤ x.2) (k : List UInt8) (i : Nat) : 0 ≤ tot (T.take i) k ∧ tot (T.take i) k ≤ tot T k := by
  have h1 := tot_nn (fun x hx => hp x (List.mem_of_mem_take hx)) k (T := T.take i)
  have h2 := tot_nn (fun x hx => hp x (List.mem_of_mem_drop hx)) k (T := T.drop i)
  have h3 := tot_append (T.take i) (T.drop i) k
  rw [List.take_append_drop] at h3
  omega
theorem refLeft_ok (H : AH) (q : Nat) (most : Int) (T : List Tk) (own : List Nat) (h : Ref H q most T own) (k : List UInt8) (hm : tot T k ≤ most) (hm2 : most ≤ 1099511627776) (hlen : T.length ≤ 300) :
    ACalls Try.prog R 19 [.ptr (.mu q) 0, .str k] H fun v H' => v = .int .i64 (most - tot T k) ∧ H' = H := by
  have hp := h.pos
  obtain ⟨s, hbox, hs⟩ := h.reads
  refine ACalls.of_wpE Fns.ok19 (by simp [Fns.a19]) ?_
  simp [Fns.a19, hbox]
  refine AWp.loop (fun e H' => H' = H ∧ e 0 = .ptr (.mu q) 0 ∧ e 1 = .str k ∧ ∃ i : Nat, i ≤ T.length ∧ e 5 = .int .i64 (most - tot (T.take i) k) ∧ e 6 = .int .i64 i) (fun e _ => match e 6 with | .int _ i => ((T.length : Int) - i).toNat | _ => 0) ⟨rfl, rfl, rfl, 0, by omega, by simp [tot], rfl⟩ ?_
  rintro e H' ⟨rfl, h0, h1, i, hi, h5, h6⟩
  refine wpE_sound _ ?_
  by_cases hlt : i < T.length
  · rcases hs with ⟨rfl, _⟩ | ⟨r, rfl, hrow⟩
    · simp at hlt
    have hlt' : (i : Int) < (T.length : Int) := by omega
    obtain ⟨x, hx⟩ : ∃ x, T[i]? = some x := ⟨_, List.getElem?_eq_getElem hlt⟩
    obtain ⟨g0, g1⟩ := flat_get T i x hx
    have hb := tot_take_le hp k i
    have hb1 := tot_take_le hp k (i + 1)
    have ht := tot_take T k hx
    have hw1 := wrap_i64 ((i : Int) + 1) (by omega) (by omega)
    by_cases hk : x.1 = k
    · rw [if_pos hk] at ht
      have hw2 := wrap_i64 (most - tot (T.take i) k - x.2) (by omega) (by omega)
      simp [h0, h1, h5, h6, hbox, hlt', hlt, hrow, g0, g1, hk, strBin, hw1, hw2]
      exact ⟨⟨i + 1, by omega, (by rw [ht]; omega), by simp⟩, by omega⟩
    · rw [if_neg hk] at ht
      have hk' : (x.1 == k) = false := by simpa using hk
      simp [h0, h1, h5, h6, hbox, hlt', hlt, hrow, g0, g1, hk', strBin, hw1]
      exact ⟨⟨i + 1, by omega, by rw [ht]; simp [h5], by simp⟩, by omega⟩
  · obtain rfl : i = T.length := by omega
    rw [List.take_length] at h5
    rcases hs with ⟨rfl, rfl⟩ | ⟨r, rfl, hrow⟩
    · simp [h0, h1, h5, h6, hbox]
    · simp [h0, h1, h5, h6, hbox]
theorem refTake_ok (H : AH) (q : Nat) (most : Int) (T : List Tk) (own : List Nat) (h : Ref H q most T own) (k : List UInt8) (n : Int) (hm : tot T k ≤ most) (hm2 : most ≤ 1099511627776) (hlen : T.length < 300) :
    ACalls Try.prog R 16 [.ptr (.mu q) 0, .str k, .int .i64 n] H fun v H' => v = .bool (decide (0 ≤ n ∧ n ≤ most - tot T k)) ∧ ∃ own', Ref H' q most (if 0 ≤ n ∧ n ≤ most - tot T k then T ++ [(k, n)] else T) own' ∧ Own own own' H H' := by
  have hleft := refLeft_ok (R := R) H q most T own h k hm hm2 (by omega)
  refine ACalls.of_wpE Fns.ok16 (by simp [Fns.a16]) ?_
  by_cases h1 : n < 0
  · have h1' : ¬ (0 ≤ n) := by omega
    simp [Fns.a16, h1, h1']
    exact ⟨own, h, Own.refl _ _⟩
  have h1' : 0 ≤ n := by omega
  simp [Fns.a16, h1]
  refine hleft.mono ?_
  rintro v H' ⟨rfl, rfl⟩
  by_cases h2 : most - tot T k < n
  · have h2' : ¬ (n ≤ most - tot T k) := by omega
    simp [h2, h2']
    exact ⟨own, h, Own.refl _ _⟩
  have h2' : n ≤ most - tot T k := by omega
  obtain ⟨⟨s, hbox, hs⟩, hp⟩ := h
  have hql := (List.getElem?_eq_some_iff.1 hbox).1
  have hp' : ∀ x ∈ T ++ [(k, n)], 0 ≤ x.2 := by
    intro x hx
    rcases List.mem_append.1 hx with hx | hx
    · exact hp x hx
    · simp at hx; subst hx; exact h1'
  have hfl : flat (T ++ [(k, n)]) = flat T ++ [.str k, .int .i64 n] := by unfold flat; simp
  rcases hs with ⟨rfl, rfl, rfl⟩ | ⟨r, rfl, hrow, hne, rfl⟩
  · have hb1 : (H' ++ [AO.cells [AV.str k, AV.int .i64 n] 69, AO.row [AV.str k, AV.int .i64 n] 69 2])[q]? = some (.cells [.int .i64 most, .nilslice] 43) := by rw [List.getElem?_append_left hql]; exact hbox
    simp [h2, h1', h2', hbox, fillA, splice, zerosEv, AV.oneCell, appendEv, srcEv, writeN, AO.withContent, List.getElem?_append_left hql, hb1]
    refine ⟨[q, H'.length + 1], ⟨⟨_, ?_, .inr ⟨H'.length + 1, rfl, ?_, by omega, rfl⟩⟩, by simpa using hp'⟩, by simp, ?_, ?_⟩
    · rw [List.getElem?_set, if_pos rfl, if_pos (by simp; omega)]; rfl
    · rw [List.getElem?_set, if_neg (by omega)]; simp [flat]
    · intro i hi; simp at hi; rcases hi with rfl | rfl
      · left; simp
      · right; omega
    · intro i hi hno
      rw [List.getElem?_set, if_neg (by rintro rfl; simp at hno), List.getElem?_append_left hi]
  · have hrl := (List.getElem?_eq_some_iff.1 hrow).1
    have hfl2 := flat_len T
    have hb2 : ¬ (T.length + 1) * 2 ≤ T.length * 2 := by omega
    have hb3 : (T.length + 1) * 24 ≤ 140737488355328 := by omega
    have hall : (flat T).take (T.length * 2) = flat T := by rw [← hfl2, List.take_length]
    have hb4 : (List.set (H' ++ [AO.cells [AV.str k, AV.int IntKind.i64 n] 69]) r AO.dead ++ [AO.row (flat T ++ [AV.str k, AV.int IntKind.i64 n]) 69 2])[q]? = some (.cells [.int .i64 most, .slice (.mu r) 0 T.length (.opn 0)] 43) := by
      rw [List.getElem?_append_left (by simp; omega), List.getElem?_set, if_neg hne, List.getElem?_append_left hql]; exact hbox
    simp [h2, h1', h2', hbox, fillA, splice, zerosEv, AV.oneCell, appendEv, srcEv, writeN, AO.withContent, List.getElem?_append_left hql, List.getElem?_append_left hrl, hrow, hfl2, hb2, hb3, hall, hb4]
    refine ⟨[q, H'.length + 1], ⟨⟨_, ?_, .inr ⟨H'.length + 1, rfl, ?_, by omega, rfl⟩⟩, by simpa using hp'⟩, by simp; omega, ?_, ?_⟩
    · rw [List.getElem?_set, if_pos rfl, if_pos (by simp; omega)]; simp
    · rw [List.getElem?_set, if_neg (by omega), hfl]; simp
    · intro i hi; simp at hi; rcases hi with rfl | rfl
      · left; simp
      · right; omega
    · intro i hi hno
      simp at hno
      rw [List.getElem?_set, if_neg (Ne.symm hno.1), List.getElem?_append_left (by simp; omega), List.getElem?_set, if_neg (Ne.symm hno.2), List.getElem?_append_left hi]
theorem cntN_le (T : List Tk) : ∀ i, cntN T i ≤ i
  | 0 => Nat.le_refl _
  | i + 1 => by
    have := cntN_le T i
    simp only [cntN]
    split
    · split <;> omega
    · omega
/-- Whether a take for 'x's key stands among the first 'j'. -/
def seenP (T : List Tk) (x : Tk) (j : Nat) : Bool := (T.take j).any fun y => decide (y.1 = x.1) && decide (0 < y.2)
theorem seenP_succ {T : List Tk} {x y : Tk} {j : Nat} (h : T[j]? = some y) : seenP T x (j + 1) = (seenP T x j || (decide (y.1 = x.1) && decide (0 < y.2))) := by
  have hi := (List.getElem?_eq_some_iff.1 h).1
  have hx : T[j] = y := (List.getElem?_eq_some_iff.1 h).2
  unfold seenP
  rw [List.take_succ_eq_append_getElem hi, List.any_append, hx]
  simp
def keysInv (q : Nat) (T : List Tk) (e : Env) (i : Nat) : Prop := e 0 = .ptr (.mu q) 0 ∧ e 4 = .int .i64 i ∧ e 3 = .int .i64 (cntN T i)
theorem refKeys_ok (H : AH) (q : Nat) (most : Int) (T : List Tk) (own : List Nat) (h : Ref H q most T own) (hlen : T.length ≤ 300) :
    ACalls Try.prog R 21 [.ptr (.mu q) 0] H fun v H' => v = .int .i64 (cntN T T.length) ∧ H' = H := by
  obtain ⟨s, hbox, hs⟩ := h.reads
  refine ACalls.of_wpE Fns.ok21 (by simp [Fns.a21]) ?_
  simp [Fns.a21]
  refine AWp.loop (fun e H' => H' = H ∧ ∃ i : Nat, i ≤ T.length ∧ keysInv q T e i) (fun e _ => match e 4 with | .int _ i => ((T.length : Int) - i).toNat | _ => 0) ⟨rfl, 0, by omega, rfl, rfl, rfl⟩ ?_
  rintro e H' ⟨rfl, i, hi, h0, h4, h3⟩
  refine wpE_sound _ ?_
  by_cases hlt : i < T.length
  · rcases hs with ⟨rfl, _⟩ | ⟨r, rfl, hrow⟩
    · simp at hlt
    have hlt' : (i : Int) < (T.length : Int) := by omega
    obtain ⟨x, hx⟩ : ∃ x, T[i]? = some x := ⟨_, List.getElem?_eq_getElem hlt⟩
    obtain ⟨g0, g1⟩ := flat_get T i x hx
    have hw1 := wrap_i64 ((i : Int) + 1) (by omega) (by omega)
    have hcn := cntN_le T i
    have hw3 := wrap_i64 ((cntN T i : Int) + 1) (by omega) (by omega)
    have hcs : cntN T (i + 1) = cntN T i + if newKey (T.take i) x then 1 else 0 := by simp [cntN, hx]
    simp [h0, h4, h3, hbox, hlt', hlt, hrow, g0, g1]
    refine AWp.loop (fun e H'' => H'' = H' ∧ keysInv q T e i ∧ ∃ j : Nat, j ≤ i ∧ e 6 = .int .i64 j ∧ e 5 = .bool (decide (0 < x.2) && !seenP T x j)) (fun e _ => match e 6 with | .int _ j => ((i : Int) - j).toNat | _ => 0) ⟨rfl, ⟨by simp [h0], by simp [h4], by simp [h3]⟩, 0, by omega, by simp, by simp [seenP]⟩ ?_
    rintro e H'' ⟨rfl, ⟨h0, h4, h3⟩, j, hj, h6, h5⟩
    refine wpE_sound _ ?_
    by_cases hjl : j < i
    · obtain ⟨y, hy⟩ : ∃ y, T[j]? = some y := ⟨_, List.getElem?_eq_getElem (by omega)⟩
      obtain ⟨k0, k1⟩ := flat_get T j y hy
      have hjl' : (j : Int) < (i : Int) := by omega
      have hjt : j < T.length := by omega
      have hjt' : (j : Int) < (T.length : Int) := by omega
      have hw2 := wrap_i64 ((j : Int) + 1) (by omega) (by omega)
      have hsn := seenP_succ (x := x) hy
      simp [h0, h4, h3, h6, h5, hjl', hjl]
      refine AWp.seqDraw Fns.mixed (by decide +kernel) ?_
      by_cases hk : y.1 = x.1
      · by_cases hp0 : 0 < y.2
        · simp [h0, h4, h3, h6, h5, hbox, hrow, hlt, hlt', hjt, hjt', g0, g1, k0, k1, hk, hp0, strBin, hw2]
          exact ⟨⟨⟨by simp [h0], by simp [h4], by simp [h3]⟩, j + 1, by omega, by simp, by simp [hsn, hk, hp0]⟩, by omega⟩
        · simp [h0, h4, h3, h6, h5, hbox, hrow, hlt, hlt', hjt, hjt', g0, g1, k0, k1, hk, hp0, strBin, hw2]
          exact ⟨⟨⟨by simp [h0], by simp [h4], by simp [h3]⟩, j + 1, by omega, by simp, by simp [hsn, hk, hp0]⟩, by omega⟩
      · have hk' : (y.1 == x.1) = false := by simpa using hk
        simp [h0, h4, h3, h6, h5, hbox, hrow, hlt, hlt', hjt, hjt', g0, g1, k0, k1, hk', strBin, hw2]
        exact ⟨⟨⟨by simp [h0], by simp [h4], by simp [h3]⟩, j + 1, by omega, by simp, by simp [hsn, hk]⟩, by omega⟩
    · obtain rfl : j = i := by omega
      have hnk : newKey (T.take j) x = (decide (0 < x.2) && !seenP T x j) := rfl
      cases hb : (decide (0 < x.2) && !seenP T x j) with
      | true =>
        rw [hb] at h5 hnk
        rw [hnk] at hcs
        simp [h0, h4, h3, h6, h5, hw1, hw3]
        exact ⟨⟨j + 1, by omega, by simp [h0], by simp [h4], by simp [hcs, h3]⟩, by omega⟩
      | false =>
        rw [hb] at h5 hnk
        rw [hnk] at hcs
        simp [h0, h4, h3, h6, h5, hw1, hw3]
        exact ⟨⟨j + 1, by omega, by simp [h0], by simp [h4], by simp [hcs, h3]⟩, by omega⟩
  · obtain rfl : i = T.length := by omega
    rcases hs with ⟨rfl, rfl⟩ | ⟨r, rfl, hrow⟩
    · simp [h0, h3, h4, hbox]
    · simp [h0, h3, h4, hbox]
end Go.Proofs.Ytklnhappoldlnaa.Heap
