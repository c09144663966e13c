/- What is left for one key hangs on what was taken for it alone: what the law's code computes. -/
import Derived.Test.YtklnhappoldlnaaActs
import Derived.Test.YtklnhappoldlnaaNobody
namespace Go.Proofs.Ytklnhappoldlnaa.Heap
open Go Go.RowKit Am
set_option maxRecDepth 100000
set_option linter.unusedSimpArgs false
set_option linter.unusedVariables false
variable {R : Ro}
theorem Q.lt {H : AH} {q : Nat} {most : Int} {f : List UInt8 → Int} {own : List Nat} (h : Q H q most f own) : ∀ i ∈ own, i < H.length := by
  obtain ⟨im, ks, cs, ns, hq, rfl, rfl⟩ := h
  obtain ⟨es, ck, m1, _⟩ := hq.map
  intro i hi
  simp at hi
  rcases hi with rfl | rfl | hi
  · exact (List.getElem?_eq_some_iff.1 hq.box).1
  · exact (List.getElem?_eq_some_iff.1 m1).1
  · obtain ⟨j, hj, rfl⟩ := List.mem_iff_getElem.1 hi
    obtain ⟨m, hm⟩ : ∃ m, ns[j]? = some m := ⟨_, List.getElem?_eq_getElem (by rw [hq.ln, ← hq.lc]; exact hj)⟩
    exact (List.getElem?_eq_some_iff.1 (hq.cnt j _ m (List.getElem?_eq_getElem hj) hm)).1
/-- Another quota, and what else lies there, stand. -/
theorem Q.step {H H' : AH} {q2 : Nat} {most : Int} {f2 : List UInt8 → Int} {own1 own1' own2 : List Nat} (h2 : Q H q2 most f2 own2) (hO : Own own1 own1' H H') (hd : ∀ i ∈ own1, i ∉ own2) : Q H' q2 most f2 own2 ∧ ∀ i ∈ own1', i ∉ own2 := by
  refine ⟨h2.frame fun i hi => hO.2.2 i (h2.lt i hi) (fun h1 => hd i h1 hi), fun i hi h => ?_⟩
  rcases hO.2.1 i hi with h1 | h1
  · exact hd i h1 h
  · have := h2.lt i h; omega
theorem Q.more {H : AH} {q : Nat} {most : Int} {f : List UInt8 → Int} {own : List Nat} (h : Q H q most f own) (G : AH) : Q (H ++ G) q most f own :=
  h.frame fun i hi => by rw [List.getElem?_append_left (h.lt i hi)]
theorem read3 {b o : Nat} {x y z : AV} (h0 : R b o = some x) (h1 : R b (o + 1) = some y) (h2 : R b (o + 2) = some z) : (List.range 3).mapM (fun k => R b (o + k)) = some [x, y, z] := by
  show [0, 1, 2].mapM (fun k => R b (o + k)) = _
  simp [h0, h1, h2]
def Inv (most : Int) (a : AV) (key : List UInt8) (L : List Act) (q1 q2 : Nat) (e : Env) (H : AH) : Prop :=
  ∃ (f1 f2 : List UInt8 → Int) (own1 own2 : List Nat) (i : Nat) (sum : Int), e 0 = .int .i64 most ∧ e 1 = a ∧ e 2 = .str key ∧ e 7 = .ptr (.mu q1) 0 ∧ e 9 = .ptr (.mu q2) 0 ∧ e 11 = .int .i64 sum ∧ e 12 = .int .i64 i ∧
    i ≤ L.length ∧ Q H q1 most f1 own1 ∧ Q H q2 most f2 own2 ∧ (∀ j ∈ own1, j ∉ own2) ∧ f1 key = sum ∧ f2 key = sum
theorem apart (most : Int) (a : AV) (key : List UInt8) (L : List Act) (hs : Acts R a L) : ACalls Try.prog R 6 [.int .i64 most, a, .str key] [] fun v _ => v = .bool true := by
  refine ACalls.of_wpE Fns.ok6 (by simp [Fns.a6]) ?_
  simp [Fns.a6]
  refine (((Nobody.awake []).ro (R' := R) fun b o v h => by cases h)).mono ?_
  rintro v H' ⟨rfl, rfl⟩
  simp
  refine (great_ok _ _ _ hs).mono ?_
  rintro v H' ⟨rfl, b, rfl, hb⟩
  cases b with
  | true => simp
  | false =>
    have hlen := hb rfl
    by_cases hk : (2000 : Int) < key.length
    · simp [hk]
    simp [hk]
    by_cases hm : 0 ≤ most ∧ most ≤ 1099511627776
    · refine (new_ok _ _ hm).mono ?_
      rintro v H1 ⟨rfl, hq1, ⟨G1, rfl⟩, hl1⟩
      simp
      refine (new_ok _ _ hm).mono ?_
      rintro v H2 ⟨rfl, hq2, ⟨G2, rfl⟩, hl2⟩
      have hq1' := hq1.more G2
      simp [eqEv]
      refine AWp.loop (fun e H => Inv most a key L 1 (H1.length + 1) e H) (fun e _ => match e 12 with | .int _ i => ((L.length : Int) - i).toNat | _ => 0) ⟨_, _, _, _, 0, 0, rfl, rfl, rfl, rfl, rfl, rfl, rfl, by omega, hq1', hq2, ?_, rfl, rfl⟩ ?_
      · intro j hj hj2
        simp at hj hj2 hl1
        omega
      rintro e H ⟨f1, f2, own1, own2, i, sum, h0, h1, h2, h7, h9, h11, h12, hi, hA, hB, hd, hf1, hf2⟩
      have hbA := hA.bnd key
      refine wpE_sound _ ?_
      by_cases hlt : i < L.length
      · obtain ⟨b, off, cap, ha, hcell⟩ := hs.1.at (show i < (L.map Act.cells).length by simpa using hlt)
        have hlt' : (i : Int) < (L.length : Int) := by omega
        have hw1 := wrap_i64 ((i : Int) + 1) (by omega) (by omega)
        obtain ⟨d, n, k, hx⟩ : ∃ d n k, L[i] = (d, n, k) := ⟨_, _, _, rfl⟩
        have hR0 := hcell 0 (.int .i64 d) (by simp [Act.cells, hx])
        have hR1 := hcell 1 (.int .i64 n) (by simp [Act.cells, hx])
        have hR2 := hcell 2 (.str k) (by simp [Act.cells, hx])
        have hR3 := read3 (o := off + i * 3) hR0 hR1 hR2
        rw [ha] at h1
        by_cases hd1 : d = 1
        · subst hd1
          simp [h0, h1, h2, h7, h9, h11, h12, hlt', hlt, hR3, writeN, splice, AO.withContent]
          refine (tick_ok _ _ _ _ _ (hA.more _)).mono ?_
          rintro v H2 ⟨own1', hA2, hO⟩
          obtain ⟨hB2, hd2⟩ := (hB.more _).step hO hd
          simp [h9]
          refine (tick_ok _ _ _ _ _ hB2).mono ?_
          rintro v H3 ⟨own2', hB3, hO3⟩
          obtain ⟨hA3, hd3⟩ := hA2.step hO3 (fun j hj hj' => hd2 j hj' hj)
          simp [h12, hw1]
          exact ⟨⟨_, _, own1', own2', i + 1, 0, by simp [h0], by simp [h1, ha], by simp [h2], by simp [h7], by simp [h9], by simp, by simp, by omega, hA3, hB3, fun j hj hj' => hd3 j hj' hj, rfl, rfl⟩, by omega⟩
        by_cases hd0 : d = 0
        · subst hd0
          simp [h0, h1, h2, h7, h9, h11, h12, hlt', hlt, hR3, writeN, splice, AO.withContent]
          refine (take_ok _ _ _ _ _ (hA.more _) _ _).mono ?_
          rintro v H2 ⟨rfl, own1', hA2, hO⟩
          obtain ⟨hB2, hd2⟩ := (hB.more _).step hO hd
          have hbox : H2[H.length]? = some (.cells [.int .i64 0, .int .i64 n, .str k] 45) := by
            rw [hO.2.2 H.length (by simp) (fun hj => by have := hA.lt _ hj; omega)]; simp
          by_cases hkk : k = key
          · subst hkk
            simp [hbox, h0, h1, h2, h7, h9, h11, h12, strBin]
            refine (take_ok _ _ _ _ _ hB2 _ _).mono ?_
            rintro v H3 ⟨rfl, own2', hB3, hO3⟩
            obtain ⟨hA3, hd3⟩ := hA2.step hO3 (fun j hj hj' => hd2 j hj' hj)
            have hbox3 : H3[H.length]? = some (.cells [.int .i64 0, .int .i64 n, .str k] 45) := by
              rw [hO3.2.2 H.length (by have := (List.getElem?_eq_some_iff.1 hbox).1; exact this) (fun hj => by have := hB.lt _ hj; omega)]; exact hbox
            rw [hf1] at hA3 hA2 hbA
            rw [hf2] at hB3
            simp only [hf1, hf2]
            have hwm := wrap_i64 (most - sum) (by omega) (by omega)
            by_cases hok : 0 ≤ n ∧ n ≤ most - sum
            · simp only [hok, and_self, if_true] at hA3 hB3
              have hu1 : upd f1 k n k = sum + n := by simp [upd, hf1]
              have hu2 : upd f2 k n k = sum + n := by simp [upd, hf2]
              have hws := wrap_i64 (sum + n) (by omega) (by omega)
              have hwm2 := wrap_i64 (most - (sum + n)) (by omega) (by omega)
              simp [hbox3, h0, h1, h2, h7, h9, h11, h12, hok, hwm, eqEv, hws]
              refine (left_ok _ _ _ _ _ hA3 _).mono ?_
              rintro v H4 ⟨rfl, rfl⟩
              simp [hu1, hwm2, h0, h1, h2, h7, h9, h11, h12, hw1]
              exact ⟨⟨_, _, own1', own2', i + 1, sum + n, by simp [h0], by simp [h1, ha], by simp [h2], by simp [h7], by simp [h9], by simp, by simp, by omega, hA3, hB3, fun j hj hj' => hd3 j hj' hj, hu1, hu2⟩, by omega⟩
            · simp only [if_neg hok] at hA3 hB3
              have hok' : (decide (0 ≤ n ∧ n ≤ most - sum)) = false := by simp [hok]
              by_cases hn0 : 0 ≤ n
              · have hn1 : ¬ n ≤ most - sum := fun hn => hok ⟨hn0, hn⟩
                simp [hbox3, h0, h1, h2, h7, h9, h11, h12, hok', hn0, hn1, hwm, eqEv]
                refine (left_ok _ _ _ _ _ hA3 _).mono ?_
                rintro v H4 ⟨rfl, rfl⟩
                simp [hf1, hwm, h0, h1, h2, h7, h9, h11, h12, hw1]
                exact ⟨⟨_, _, own1', own2', i + 1, sum, by simp [h0], by simp [h1, ha], by simp [h2], by simp [h7], by simp [h9], by simp [h11], by simp, by omega, hA3, hB3, fun j hj hj' => hd3 j hj' hj, hf1, hf2⟩, by omega⟩
              · simp [hbox3, h0, h1, h2, h7, h9, h11, h12, hok', hn0, hwm, eqEv]
                refine (left_ok _ _ _ _ _ hA3 _).mono ?_
                rintro v H4 ⟨rfl, rfl⟩
                simp [hf1, hwm, h0, h1, h2, h7, h9, h11, h12, hw1]
                exact ⟨⟨_, _, own1', own2', i + 1, sum, by simp [h0], by simp [h1, ha], by simp [h2], by simp [h7], by simp [h9], by simp [h11], by simp, by omega, hA3, hB3, fun j hj hj' => hd3 j hj' hj, hf1, hf2⟩, by omega⟩
          · have hbe : (k == key) = false := by simp [hkk]
            simp [hbox, h0, h1, h2, h7, h9, h11, h12, hbe, strBin, hw1]
            refine ⟨⟨_, _, own1', own2, i + 1, sum, by simp [h0], by simp [h1, ha], by simp [h2], by simp [h7], by simp [h9], by simp [h11], by simp, by omega, hA2, hB2, hd2, ?_, hf2⟩, by omega⟩
            split
            · simp [upd, Ne.symm hkk, hf1]
            · exact hf1
        · simp [h0, h1, h2, h7, h9, h11, h12, hlt', hlt, hR3, writeN, splice, AO.withContent, hd1, hd0, hw1]
          exact ⟨⟨_, _, own1, own2, i + 1, sum, by simp [h0], by simp [h1, ha], by simp [h2], by simp [h7], by simp [h9], by simp [h11], by simp, by omega, hA.more _, hB.more _, hd, hf1, hf2⟩, by omega⟩
      · have hlt' : ¬ (i : Int) < (L.length : Int) := by omega
        have hlen2 : (e 1 = .nilslice ∧ (L.length : Int) = 0) ∨ ∃ b off cap, e 1 = .slice (.ro b) off L.length (.known cap) := by
          rcases hs.1 with ⟨ha, hL⟩ | ⟨b, off, cap, ha, _⟩
          · left; rw [h1, ha]; simpa using hL
          · right; rw [h1, ha]; simp
        rcases hlen2 with ⟨h1', hL0⟩ | ⟨b, off, cap, h1'⟩
        · have hi0 : ¬ (i : Int) < 0 := by omega
          simp [h0, h1', h2, h7, h9, h11, h12, hi0]
          refine (left_ok _ _ _ _ _ hA _).mono ?_
          rintro v H' ⟨rfl, rfl⟩
          simp [h2, h9]
          refine (left_ok _ _ _ _ _ hB _).mono ?_
          rintro v H' ⟨rfl, rfl⟩
          simp [hf1, hf2]
        · simp [h0, h1', h2, h7, h9, h11, h12, hlt']
          refine (left_ok _ _ _ _ _ hA _).mono ?_
          rintro v H' ⟨rfl, rfl⟩
          simp [h2, h9]
          refine (left_ok _ _ _ _ _ hB _).mono ?_
          rintro v H' ⟨rfl, rfl⟩
          simp [hf1, hf2]
    · refine (new_bad _ _ hm).mono ?_
      rintro v H' ⟨rfl, rfl⟩
      simp
      refine (new_bad _ _ hm).mono ?_
      rintro v H' ⟨rfl, rfl⟩
      simp [eqEv]
end Go.Proofs.Ytklnhappoldlnaa.Heap
