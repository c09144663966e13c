/- Which leaf is a pane's; which split is above a node. -/
import Derived.Test.YtbcfhiohdamcjaaTrLen
import Derived.Test.YtbcfhiohdamcjaaTrEq
namespace Go.Proofs.Ytbcfhiohdamcjaa.Tr
open Go Go.RowKit Am
set_option maxRecDepth 100000
set_option linter.unusedSimpArgs false
set_option linter.unusedVariables false
attribute [-simp] Am.binEv Am.intBin Am.read1
attribute [local simp] binEv_lss binEv_leq binEv_gtr binEv_geq binEv_eql binEv_neq binEv_add binEv_sub binEv_mul read1_ro read1_mu
variable {R : Ro}
structure PA where
  a : Int
  b : Int
  c : Int
deriving DecidableEq
def PA.cells (p : PA) : List AV := [.int .i64 p.a, .int .i64 p.b, .int .i64 p.c]
def PA.av (p : PA) : AV := .agg p.cells
def ND.pa (x : ND) : PA := ⟨x.a, x.b, x.c⟩
theorem PA.eq {p q : PA} : p = q ↔ p.a = q.a ∧ p.b = q.b ∧ p.c = q.c := by cases p; cases q; simp
/-- The first place where something holds; -1: nowhere. -/
def idx (f : ND → Bool) (N : List ND) : Int := if N.findIdx f < N.length then (N.findIdx f : Int) else -1
/-- slices.IndexFunc with a function that tells nodes apart and leaves what was there. -/
theorem idx_ok {f : ND → Bool} {g : FuncId} {cap : List AV} {H : AH} {j n : Nat} {cp : Cap} {C : List AV} {N : List ND} (hbod : bodied Try.prog g = true) (hj : (H[j]?).bind AO.content = some C) (hC : C.take (n * 7) = ndV N) (hN : N.length = n) (hb : n ≤ 1000)
    (hf : ∀ x G, (∀ i, i < H.length → G[i]? = H[i]?) → ACalls Try.prog R g (.agg x.cells :: cap) G fun v G' => v = .bool (f x) ∧ (∀ i, i < G.length → G'[i]? = G[i]?)) :
    ACalls Try.prog R 49 [.slice (.mu j) 0 n cp, .fn (.func g) [] cap] H fun v G => v = .int .i64 (idx f N) ∧ ∀ i, i < H.length → G[i]? = H[i]? := by
  have hjl : j < H.length := by
    cases h : H[j]? with
    | none => rw [h] at hj; cases hj
    | some o => exact (List.getElem?_eq_some_iff.1 h).1
  refine ACalls.of_wpE Fns.ok49 (by simp [Fns.a49]) ?_
  simp [Fns.a49]
  refine AWp.loop (fun e G => e 0 = .slice (.mu j) 0 n cp ∧ e 1 = .fn (.func g) [] cap ∧ e 7 = .int .i64 n ∧ (∀ i, i < H.length → G[i]? = H[i]?) ∧ ∃ i : Nat, e 8 = .int .i64 i ∧ i ≤ n ∧ ∀ x ∈ N.take i, f x = false) (fun e _ => match e 8 with | .int _ i => ((n : Int) - i).toNat | _ => 0)
    ⟨by simp, by simp, by simp, fun i hi => rfl, 0, by simp, by omega, by simp⟩ ?_
  rintro e G ⟨h0, h1, h7, hold, i, h8, hi, hpre⟩
  refine wpE_sound _ ?_
  by_cases hlt : i < n
  · have hlt' : (i : Int) < (n : Int) := by omega
    have hw1 : IntKind.i64.wrap ((i : Int) + 1) = (i : Int) + 1 := by rw [wrap_nat] <;> omega
    have hil : i < N.length := by omega
    have hx : N[i]? = some N[i] := List.getElem?_eq_getElem hil
    have hrd := ndV_at N i _ hx
    have hr : (G[j]?).bind AO.content = some C := by rw [hold j hjl]; exact hj
    have hfit : i * 7 + 7 ≤ C.length := by
      have := congrArg List.length hC
      rw [List.length_take, ndV_len, hN] at this; omega
    have hrd2 : (C.drop (i * 7)).take 7 = N[i].cells := by
      rw [← hrd, ← hC, List.drop_take, List.take_take]
      congr 1
      omega
    have htk : N.take (i + 1) = N.take i ++ [N[i]] := by rw [List.take_add_one, hx, Option.toList_some]
    simp [h0, h1, h7, h8, hlt, hlt', hr, hfit, hrd2, readN, fnArgs, hbod]
    refine (hf _ _ hold).mono ?_
    rintro v G' ⟨rfl, hk⟩
    have hlen : H.length ≤ G.length := by
      by_cases h : H.length ≤ G.length
      · exact h
      · have := hold G.length (by omega)
        simp at this
        omega
    have hold' : ∀ i, i < H.length → G'[i]? = H[i]? := fun i hi => by rw [hk i (by omega)]; exact hold i hi
    cases hfx : f N[i] with
    | true =>
      simp
      refine ⟨?_, hold'⟩
      have hfi : N.findIdx f = i := by
        rw [List.findIdx_eq hil]
        refine ⟨hfx, fun k hk => ?_⟩
        exact hpre _ (List.mem_take_iff_getElem.2 ⟨k, by omega, rfl⟩)
      unfold idx
      rw [hfi, if_pos hil]
    | false =>
      simp [h0, h1, h7, h8, hw1]
      refine ⟨⟨hold', i + 1, by simp, by omega, ?_⟩, by omega⟩
      rw [htk]
      intro x hx
      rw [List.mem_append] at hx
      rcases hx with hx | hx
      · exact hpre x hx
      · simp at hx; rw [hx]; exact hfx
  · obtain rfl : i = n := by omega
    rw [← hN, List.take_length] at hpre
    simp [h7, h8]
    refine ⟨?_, hold⟩
    unfold idx
    rw [if_neg]
    rw [List.findIdx_lt_length]
    rintro ⟨x, hx, hfx⟩
    rw [hpre x hx] at hfx; cases hfx
/-- A tree that lies in the heap. -/
structure Tre (H : AH) (t j n : Nat) (cp : Cap) (C : List AV) (N : List ND) : Prop where
  ht : H[t]? = some (.cells [.slice (.mu j) 0 n cp] 58)
  hj : (H[j]?).bind AO.content = some C
  hc : C.take (n * 7) = ndV N
  hn : N.length = n
  pos : 0 < n
  le : n ≤ 1000
theorem Tre.app {H : AH} {t j n : Nat} {cp : Cap} {C : List AV} {N : List ND} (h : Tre H t j n cp C N) (X : AH) : Tre (H ++ X) t j n cp C N :=
  ⟨get_app h.ht, by
    have hj := h.hj
    cases hg : H[j]? with
    | none => rw [hg] at hj; cases hj
    | some o => rw [get_app hg]; rw [hg] at hj; exact hj, h.hc, h.hn, h.pos, h.le⟩
theorem Tre.len {H : AH} {t j n : Nat} {cp : Cap} {C : List AV} {N : List ND} (h : Tre H t j n cp C N) : ACalls Try.prog R 35 [.ptr (.mu t) 0] H fun v H' => H' = H ∧ v = .int .i64 (lv N).length :=
  len_ok h.ht h.hj h.hc h.hn h.pos h.le
def isLeaf (p : PA) (x : ND) : Bool := decide (x.side = 0) && decide (x.pa = p)
def isAbove (i : Int) (x : ND) : Bool := decide (x.side ≠ 0) && (decide (x.f = i) || decide (x.s = i))
theorem leafC_ok {p : PA} {q : Nat} {x : ND} {G : AH} (hq : G[q]? = some (.cells p.cells 32)) : ACalls Try.prog R 50 [.agg x.cells, .ptr (.mu q) 0] G fun v G' => v = .bool (isLeaf p x) ∧ (∀ i, i < G.length → G'[i]? = G[i]?) := by
  obtain ⟨sd, xf, xs, xh, xa, xb, xc⟩ := x
  obtain ⟨pa, pb, pc⟩ := p
  simp only [PA.cells] at hq
  have hql := (List.getElem?_eq_some_iff.1 hq).1
  have he := eqP xa xb xc pa pb pc
  simp only [fieldsP] at he
  refine ACalls.of_wpE Fns.ok50 (by simp [Fns.a50]) ?_
  by_cases hs : sd = 0
  · subst hs
    simp [-eqEv, Fns.a50, ND.cells, hq, get_app hq, AO.content, readN, he]
    refine ⟨?_, fun i hi => List.getElem?_append_left hi⟩
    simp [isLeaf, ND.pa, PA.eq]
  · simp [Fns.a50, ND.cells, hq, hs, isLeaf, AO.content, readN]
    exact fun i hi => List.getElem?_append_left hi
theorem aboveC_ok {i : Int} {q : Nat} {x : ND} {G : AH} (hq : G[q]? = some (.cells [.int .i64 i] 3)) : ACalls Try.prog R 53 [.agg x.cells, .ptr (.mu q) 0] G fun v G' => v = .bool (isAbove i x) ∧ (∀ i, i < G.length → G'[i]? = G[i]?) := by
  obtain ⟨sd, xf, xs, xh, xa, xb, xc⟩ := x
  have hql := (List.getElem?_eq_some_iff.1 hq).1
  refine ACalls.of_wpE Fns.ok53 (by simp [Fns.a53]) ?_
  by_cases hs : sd = 0
  · simp [Fns.a53, ND.cells, hq, hs, isAbove, AO.content, readN]
    exact fun i hi => List.getElem?_append_left hi
  · by_cases hf : xf = i
    · subst hf
      simp [Fns.a53, ND.cells, hq, get_app hq, hs, isAbove, AO.content, readN]
      exact fun i hi => List.getElem?_append_left hi
    · simp [Fns.a53, ND.cells, hq, get_app hq, hs, hf, isAbove, AO.content, readN]
      exact fun i hi => List.getElem?_append_left hi
theorem leaf_ok {H : AH} {t j n : Nat} {cp : Cap} {C : List AV} {N : List ND} (h : Tre H t j n cp C N) (p : PA) : ACalls Try.prog R 34 [.ptr (.mu t) 0, p.av] H fun v H' => H' = H ∧ v = .int .i64 (idx (isLeaf p) N) := by
  refine ACalls.gc ?_
  refine ACalls.of_wpE Fns.ok34 (by simp [Fns.a34]) ?_
  have h1 := h.app [.cells p.cells 32]
  simp [Fns.a34, PA.av, PA.cells]
  simp only [PA.cells] at h1
  refine (nodes_ok h1.ht h.pos).mono ?_
  rintro v G ⟨rfl, rfl⟩
  simp
  refine (idx_ok (f := isLeaf p) rfl h1.hj h.hc h.hn h.le fun x G hG => leafC_ok (p := p) ?_).mono ?_
  · rw [hG _ (by simp)]; simp [PA.cells]
  · rintro v G ⟨rfl, hk⟩
    simp
    refine ⟨app_of ?_ fun i hi => ?_, by simp [ren]⟩
    · by_cases hl : H.length ≤ G.length
      · exact hl
      · have := hk G.length (by simp; omega)
        simp at this
        omega
    · rw [hk i (by simp; omega), List.getElem?_append_left hi]
theorem above_ok {H : AH} {t j n : Nat} {cp : Cap} {C : List AV} {N : List ND} (h : Tre H t j n cp C N) (i : Int) : ACalls Try.prog R 44 [.ptr (.mu t) 0, .int .i64 i] H fun v H' => H' = H ∧ v = .int .i64 (idx (isAbove i) N) := by
  refine ACalls.gc ?_
  refine ACalls.of_wpE Fns.ok44 (by simp [Fns.a44]) ?_
  have h1 := h.app [.cells [.int .i64 i] 3]
  simp [Fns.a44]
  refine (nodes_ok h1.ht h.pos).mono ?_
  rintro v G ⟨rfl, rfl⟩
  simp
  refine (idx_ok (f := isAbove i) rfl h1.hj h.hc h.hn h.le fun x G hG => aboveC_ok (i := i) ?_).mono ?_
  · rw [hG _ (by simp)]; simp
  · rintro v G ⟨rfl, hk⟩
    simp
    refine ⟨app_of ?_ fun i hi => ?_, by simp [ren]⟩
    · by_cases hl : H.length ≤ G.length
      · exact hl
      · have := hk G.length (by simp; omega)
        simp at this
        omega
    · rw [hk i (by simp; omega), List.getElem?_append_left hi]
def hasP (p : PA) (N : List ND) : Bool := decide (0 ≤ idx (isLeaf p) N)
theorem has_ok {H : AH} {t j n : Nat} {cp : Cap} {C : List AV} {N : List ND} (h : Tre H t j n cp C N) (p : PA) : ACalls Try.prog R 20 [.ptr (.mu t) 0, p.av] H fun v H' => H' = H ∧ v = .bool (hasP p N) := by
  refine ACalls.gc ?_
  refine ACalls.of_wpE Fns.ok20 (by simp [Fns.a20]) ?_
  have h1 := h.app [.cells p.cells 32]
  have h2 := leaf_ok (R := R) h1 p
  simp [Fns.a20, PA.av, PA.cells]
  simp only [PA.av, PA.cells] at h2
  refine h2.mono ?_
  rintro v G ⟨rfl, rfl⟩
  simp [hasP, ren]
end Go.Proofs.Ytbcfhiohdamcjaa.Tr
