/- Whatever is taken: each answer, and what is left, is the document's: what the law's code computes. -/
import Derived.Test.YtklnhappoldlnaaRef
import Derived.Test.YtklnhappoldlnaaApart
namespace Go.Proofs.Ytklnhappoldlnaa.Heap
open Go Go.RowKit Am
set_option maxRecDepth 100000
set_option linter.unusedSimpArgs false
set_option linter.unusedVariables false
variable {R : Ro}
theorem cntN_append (T : List Tk) (x : Tk) : ∀ i, i ≤ T.length → cntN (T ++ [x]) i = cntN T i
  | 0, _ => rfl
  | i + 1, h => by
    have ih := cntN_append T x i (by omega)
    simp only [cntN]
    rw [ih, List.getElem?_append_left (by omega), List.take_append_of_le_length (by omega)]
structure Keyed (T : List Tk) (ks : List (List UInt8)) : Prop where
  mem : ∀ k, k ∈ ks ↔ ∃ y ∈ T, y.1 = k ∧ 0 < y.2
  cnt : ks.length = cntN T T.length
theorem Keyed.step {T : List Tk} {ks ks' : List (List UInt8)} (h : Keyed T ks) {k : List UInt8} {n m : Int} (hk : KS ks k n m ks') (hm : n ≤ m) : Keyed (T ++ [(k, n)]) ks' := by
  have hany : (T.any fun y => decide (y.1 = k) && decide (0 < y.2)) = decide (k ∈ ks) := by
    rw [Bool.eq_iff_iff, List.any_eq_true, decide_eq_true_iff, h.mem]
    simp
  have hc : cntN (T ++ [(k, n)]) (T ++ [(k, n)]).length = cntN T T.length + if newKey T (k, n) then 1 else 0 := by
    simp only [List.length_append, List.length_cons, List.length_nil, cntN]
    rw [cntN_append T _ T.length (Nat.le_refl _)]
    simp
  rcases hk with ⟨h1, _, h3, rfl⟩ | ⟨h1, rfl⟩
  · have hn : newKey T (k, n) = true := by unfold newKey; simp only [hany]; simp [h1, h3]
    refine ⟨fun k' => ?_, by rw [hc, hn]; simp [h.cnt]⟩
    simp only [List.mem_append, List.mem_singleton, h.mem]
    constructor
    · rintro (⟨y, hy, h⟩ | rfl)
      · exact ⟨y, .inl hy, h⟩
      · exact ⟨_, .inr rfl, rfl, h1⟩
    · rintro ⟨y, hy | rfl, h4, h5⟩
      · exact .inl ⟨y, hy, h4, h5⟩
      · exact .inr h4.symm
  · have hn : newKey T (k, n) = false := by
      unfold newKey; simp only [hany]
      by_cases h0 : 0 < n
      · have : k ∈ ks' := Classical.byContradiction fun hh => h1 ⟨h0, hm, hh⟩
        simp [this]
      · simp [h0]
    refine ⟨fun k' => ?_, by rw [hc, hn]; simp [h.cnt]⟩
    simp only [List.mem_append, List.mem_singleton, h.mem]
    constructor
    · rintro ⟨y, hy, h⟩
      exact ⟨y, .inl hy, h⟩
    · rintro ⟨y, hy | rfl, h4, h5⟩
      · exact ⟨y, hy, h4, h5⟩
      · have : k ∈ ks' := Classical.byContradiction fun hh => h1 ⟨h5, hm, hh⟩
        obtain ⟨z, hz, h6, h7⟩ := (h.mem k).1 this
        exact ⟨z, hz, by rw [h6]; exact h4, h7⟩
theorem Keyed.same {T : List Tk} {ks ks' : List (List UInt8)} (h : Keyed T ks) {k : List UInt8} {n m : Int} (hk : KS ks k n m ks') (hm : ¬ (0 ≤ n ∧ n ≤ m)) : Keyed T ks' := by
  rcases hk with ⟨h1, h2, _⟩ | ⟨_, rfl⟩
  · exact absurd ⟨by omega, h2⟩ hm
  · exact h
theorem upd_tot (T : List Tk) (k : List UInt8) (n : Int) : upd (tot T) k n = tot (T ++ [(k, n)]) := by
  funext k'
  unfold upd
  rw [tot_append]
  by_cases h : k' = k
  · subst h; simp [tot]
  · have h' : ¬ k = k' := fun e => h e.symm
    simp [tot, h, h']
structure Both (H : AH) (q wq : Nat) (most : Int) (n : Nat) : Prop where
  ex : ∃ f own1 ks T own2, QK H q most f own1 ks ∧ Ref H wq most T own2 ∧ (∀ j ∈ own1, j ∉ own2) ∧ f = tot T ∧ T.length ≤ n ∧ Keyed T ks
theorem Own.keeps {own1 own1' own2 : List Nat} {H H' : AH} (hO : Own own1 own1' H H') (hd : ∀ j ∈ own1, j ∉ own2) (hl : ∀ j ∈ own2, j < H.length) : (∀ j ∈ own2, H'[j]? = H[j]?) ∧ ∀ j ∈ own1', j ∉ own2 := by
  refine ⟨fun j hj => hO.2.2 j (hl j hj) fun h => hd j h hj, fun j hj h => ?_⟩
  rcases hO.2.1 j hj with h1 | h1
  · exact hd j h1 h
  · have := hl j h; omega
def InvP (most : Int) (a : AV) (L : List Act) (q wq : Nat) (e : Env) (H : AH) : Prop :=
  ∃ i : Nat, e 0 = .int .i64 most ∧ e 1 = a ∧ e 5 = .ptr (.mu q) 0 ∧ e 7 = .ptr (.mu wq) 0 ∧ e 8 = .int .i64 i ∧ i ≤ L.length ∧ Both H q wq most i
theorem plays (most : Int) (a : AV) (L : List Act) (hs : Acts R a L) : ACalls Try.prog R 4 [.int .i64 most, a] [] fun v _ => v = .bool true := by
  refine ACalls.of_wpE Fns.ok4 (by simp [Fns.a4]) ?_
  simp [Fns.a4]
  refine (((Nobody.awake []).ro (R' := R) fun b o v h => by cases h)).mono ?_
  rintro v H' ⟨rfl, rfl⟩
  simp
  refine (great_ok _ _ _ hs).mono ?_
  rintro v H' ⟨rfl, b, rfl, hb⟩
  cases b with
  | true => simp
  | false =>
    have hlen := hb rfl
    simp
    by_cases hm : 0 ≤ most ∧ most ≤ 1099511627776
    · refine (new_ok _ _ hm).mono ?_
      rintro v H1 ⟨rfl, hq1, ⟨G1, rfl⟩, hl1⟩
      have h1 : ¬ most < 0 := by omega
      have h2 : ¬ 1099511627776 < most := by omega
      simp [eqEv, h1, h2, fillA, splice, AV.oneCell]
      have hk1 : QK H1 1 most (fun _ => 0) [1, 0] [] := by
        obtain ⟨im, ks, cs, ns, hq, hf, ho⟩ := hq1
        simp at ho
        obtain ⟨rfl, rfl⟩ := ho
        have hks : ks = [] := List.length_eq_zero_iff.1 (by rw [← hq.lc]; rfl)
        subst hks
        exact ⟨_, _, _, hq, hf, rfl⟩
      simp at hl1
      refine AWp.loop (fun e H => InvP most a L 1 H1.length e H) (fun e _ => match e 8 with | .int _ i => ((L.length : Int) - i).toNat | _ => 0) ⟨0, rfl, rfl, rfl, rfl, rfl, by omega, ⟨⟨_, _, _, [], [H1.length], hk1.frame ?_, ⟨⟨_, by simp, .inl ⟨rfl, rfl, rfl⟩⟩, by simp⟩, ?_, ?_, by simp, ⟨by simp, rfl⟩⟩⟩⟩ ?_
      · intro i hi
        rw [List.getElem?_append_left (by simp at hi; omega)]
      · intro j hj hj'; simp at hj hj'; omega
      · funext k; simp [tot]
      rintro e H ⟨i, h0, h1, h5, h7, h8, hi, ⟨f, own1, ks, T, own2, hA, hB, hd, rfl, hT, hK⟩⟩
      refine wpE_sound _ ?_
      by_cases hlt : i < L.length
      · obtain ⟨b, off, cap, ha, hcell⟩ := hs.1.at (show i < (L.map Act.cells).length by simpa using hlt)
        have hlt' : (i : Int) < (L.length : Int) := by omega
        have hw1 := wrap_i64 ((i : Int) + 1) (by omega) (by omega)
        obtain ⟨d, n, k, hx⟩ : ∃ d n k, L[i] = (d, n, k) := ⟨_, _, _, rfl⟩
        have hR0 := hcell 0 (.int .i64 d) (by simp [Act.cells, hx])
        have hR1 := hcell 1 (.int .i64 n) (by simp [Act.cells, hx])
        have hR2 := hcell 2 (.str k) (by simp [Act.cells, hx])
        rw [Nat.add_zero] at hR0
        rw [ha] at h1
        have hbk := hA.toQ.bnd k
        by_cases hd0 : d = 0
        · subst hd0
          simp [h0, h1, h5, h7, h8, hlt', hlt, hR0]
          refine AWp.sched [0, 1, 2, 3, 4, 5, 6, 7, 8, 9, 10, 12, 13, 14, 15, 16, 17, 18, 19, 20, 21, 22, 11, 23, 24] Fns.mixed (by decide +kernel) ?_
          simp [h0, h1, h5, h7, h8, hlt', hlt, hR0, hR1, hR2, heapy, AOp.quiet, Env.put]
          refine (takeK_ok _ _ _ _ _ _ hA k n).mono ?_
          rintro v H2 ⟨rfl, own1', ks', hA2, hO, hKS⟩
          obtain ⟨hf2, hd2⟩ := hO.keeps hd hB.lt
          simp
          refine (refTake_ok _ _ _ _ _ (hB.frame hf2) k n (by omega) hm.2 (by omega)).mono ?_
          rintro v H3 ⟨rfl, own2', hB3, hO3⟩
          obtain ⟨hf3, hd3⟩ := hO3.keeps (fun j hj hj' => hd2 j hj' hj) hA2.toQ.lt
          have hA3 := hA2.frame hf3
          simp [eqEv]
          by_cases hok : 0 ≤ n ∧ n ≤ most - tot T k
          · rw [if_pos hok, upd_tot] at hA3
            rw [if_pos hok] at hB3
            have hK3 := hK.step hKS hok.2
            have hT3 : (T ++ [(k, n)]).length ≤ i + 1 := by simpa using hT
            have hd4 : ∀ j ∈ own1', j ∉ own2' := fun j hj hj' => hd3 j hj' hj
            refine AWp.sched [0, 1, 2, 3, 4, 5, 7, 8, 9, 10, 11, 12, 6, 13, 14, 15, 16, 18, 17, 19, 20, 21] Fns.mixed (by decide +kernel) ?_
            simp [h0, h1, h5, h7, h8, hlt', hlt, hR0, hR2, heapy, AOp.quiet, Env.put]
            have hb3 := hA3.toQ.bnd k
            refine (left_ok _ _ _ _ _ hA3.toQ _).mono ?_
            rintro v H4 ⟨rfl, rfl⟩
            simp
            refine (refLeft_ok _ _ _ _ _ hB3 k (by omega) hm.2 (by omega)).mono ?_
            rintro v H4 ⟨rfl, rfl⟩
            simp [h0, h1, h5, h7, h8]
            refine (keys_ok _ _ _ _ _ _ hA3).mono ?_
            rintro v H4 ⟨rfl, rfl⟩
            simp [h0, h1, h5, h7, h8]
            refine (refKeys_ok _ _ _ _ _ hB3 (by omega)).mono ?_
            rintro v H4 ⟨rfl, rfl⟩
            simp [h0, h1, h5, h7, h8, hK3.cnt, hw1]
            exact ⟨⟨i + 1, by simp [h0], by simp [h1, ha], by simp [h5], by simp [h7], by simp, by omega, ⟨⟨_, _, _, _, _, hA3, hB3, hd4, rfl, by omega, hK3⟩⟩⟩, by omega⟩
          · rw [if_neg hok] at hA3
            rw [if_neg hok] at hB3
            have hK3 := hK.same hKS hok
            have hd4 : ∀ j ∈ own1', j ∉ own2' := fun j hj hj' => hd3 j hj' hj
            refine AWp.sched [0, 1, 2, 3, 4, 5, 7, 8, 9, 10, 11, 12, 6, 13, 14, 15, 16, 18, 17, 19, 20, 21] Fns.mixed (by decide +kernel) ?_
            simp [h0, h1, h5, h7, h8, hlt', hlt, hR0, hR2, heapy, AOp.quiet, Env.put]
            have hb3 := hA3.toQ.bnd k
            refine (left_ok _ _ _ _ _ hA3.toQ _).mono ?_
            rintro v H4 ⟨rfl, rfl⟩
            simp
            refine (refLeft_ok _ _ _ _ _ hB3 k (by omega) hm.2 (by omega)).mono ?_
            rintro v H4 ⟨rfl, rfl⟩
            simp [h0, h1, h5, h7, h8]
            refine (keys_ok _ _ _ _ _ _ hA3).mono ?_
            rintro v H4 ⟨rfl, rfl⟩
            simp [h0, h1, h5, h7, h8]
            refine (refKeys_ok _ _ _ _ _ hB3 (by omega)).mono ?_
            rintro v H4 ⟨rfl, rfl⟩
            simp [h0, h1, h5, h7, h8, hK3.cnt, hw1]
            exact ⟨⟨i + 1, by simp [h0], by simp [h1, ha], by simp [h5], by simp [h7], by simp, by omega, ⟨⟨_, _, _, _, _, hA3, hB3, hd4, rfl, by omega, hK3⟩⟩⟩, by omega⟩
        by_cases hd1 : d = 1
        · subst hd1
          simp [h0, h1, h5, h7, h8, hlt', hlt, hR0]
          refine (tickK_ok _ _ _ _ _ _ hA).mono ?_
          rintro v H2 ⟨own1', hA2, hO⟩
          obtain ⟨hf2, hd2⟩ := hO.keeps hd hB.lt
          have hB2 := hB.frame hf2
          obtain ⟨⟨s, hbox, hs2⟩, hp⟩ := hB2
          have hwl := (List.getElem?_eq_some_iff.1 hbox).1
          have hw1n : H1.length ∈ own2 := by rcases hs2 with ⟨_, _, rfl⟩ | ⟨r, _, _, _, rfl⟩ <;> simp
          have hfr : ∀ i ∈ own1', (H2.set H1.length (.cells [.int .i64 most, .nilslice] 43))[i]? = H2[i]? := by
            intro i hi
            rw [List.getElem?_set, if_neg]
            rintro rfl
            exact hd2 _ hi hw1n
          have hA3 := hA2.frame hfr
          have hB3 : Ref (H2.set H1.length (.cells [.int .i64 most, .nilslice] 43)) H1.length most [] [H1.length] := ⟨⟨_, by rw [List.getElem?_set, if_pos rfl, if_pos hwl], .inl ⟨rfl, rfl, rfl⟩⟩, by simp⟩
          have hK3 : Keyed [] [] := ⟨by simp, rfl⟩
          have hd3 : ∀ j ∈ own1', j ∉ [H1.length] := fun j hj hj' => by simp at hj'; subst hj'; exact hd2 _ hj hw1n
          have hT3 : ([] : List Tk).length ≤ i + 1 := by simp
          rw [show (fun _ => 0 : List UInt8 → Int) = tot [] from by funext k; rfl] at hA3
          simp [h7, hbox, writeN, splice, AO.withContent]
          refine AWp.sched [0, 1, 2, 3, 4, 5, 7, 8, 9, 10, 11, 12, 6, 13, 14, 15, 16, 18, 17, 19, 20, 21] Fns.mixed (by decide +kernel) ?_
          simp [h0, h1, h5, h7, h8, hlt', hlt, hR0, hR2, heapy, AOp.quiet, Env.put]
          have hb3 := hA3.toQ.bnd k
          refine (left_ok _ _ _ _ _ hA3.toQ _).mono ?_
          rintro v H4 ⟨rfl, rfl⟩
          simp
          refine (refLeft_ok _ _ _ _ _ hB3 k (by omega) hm.2 (by omega)).mono ?_
          rintro v H4 ⟨rfl, rfl⟩
          simp [h0, h1, h5, h7, h8]
          refine (keys_ok _ _ _ _ _ _ hA3).mono ?_
          rintro v H4 ⟨rfl, rfl⟩
          simp [h0, h1, h5, h7, h8]
          refine (refKeys_ok _ _ _ _ _ hB3 (by omega)).mono ?_
          rintro v H4 ⟨rfl, rfl⟩
          simp [h0, h1, h5, h7, h8, hK3.cnt, hw1, show cntN [] 0 = 0 from rfl]
          exact ⟨⟨i + 1, by simp [h0], by simp [h1, ha], by simp [h5], by simp [h7], by simp, by omega, ⟨⟨_, _, _, _, _, hA3, hB3, hd3, rfl, by omega, hK3⟩⟩⟩, by omega⟩
        · simp [h0, h1, h5, h7, h8, hlt', hlt, hR0, hd0, hd1]
          refine AWp.sched [0, 1, 2, 3, 4, 5, 7, 8, 9, 10, 11, 12, 6, 13, 14, 15, 16, 18, 17, 19, 20, 21] Fns.mixed (by decide +kernel) ?_
          simp [h0, h1, h5, h7, h8, hlt', hlt, hR0, hR2, heapy, AOp.quiet, Env.put]
          have hb3 := hA.toQ.bnd k
          refine (left_ok _ _ _ _ _ hA.toQ _).mono ?_
          rintro v H4 ⟨rfl, rfl⟩
          simp
          refine (refLeft_ok _ _ _ _ _ hB k (by omega) hm.2 (by omega)).mono ?_
          rintro v H4 ⟨rfl, rfl⟩
          simp [h0, h1, h5, h7, h8]
          refine (keys_ok _ _ _ _ _ _ hA).mono ?_
          rintro v H4 ⟨rfl, rfl⟩
          simp [h0, h1, h5, h7, h8]
          refine (refKeys_ok _ _ _ _ _ hB (by omega)).mono ?_
          rintro v H4 ⟨rfl, rfl⟩
          simp [h0, h1, h5, h7, h8, hK.cnt, hw1]
          exact ⟨⟨i + 1, by simp [h0], by simp [h1, ha], by simp [h5], by simp [h7], by simp, by omega, ⟨⟨_, _, _, _, _, hA, hB, hd, rfl, by omega, hK⟩⟩⟩, by omega⟩
      · have hlen2 : (e 1 = .nilslice ∧ (L.length : Int) = 0) ∨ ∃ b off cap, e 1 = .slice (.ro b) off L.length (.known cap) := by
          rcases hs.1 with ⟨ha, hL⟩ | ⟨b, off, cap, ha, _⟩
          · left; rw [h1, ha]; simpa using hL
          · right; rw [h1, ha]; simp
        have hlt' : ¬ (i : Int) < (L.length : Int) := by omega
        rcases hlen2 with ⟨h1', hL0⟩ | ⟨b, off, cap, h1'⟩
        · have hi0 : ¬ (i : Int) < 0 := by omega
          simp [h0, h1', h8, hi0]
        · simp [h0, h1', h8, hlt']
    · refine (new_bad _ _ hm).mono ?_
      rintro v H' ⟨rfl, rfl⟩
      by_cases h1 : most < 0
      · simp [h1, eqEv]
      · have h2 : 1099511627776 < most := by omega
        simp [h1, h2, eqEv]
end Go.Proofs.Ytklnhappoldlnaa.Heap
