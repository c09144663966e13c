/- The panes of a tree, one by one; how many there are. -/
import Derived.Test.YtbcfhiohdamcjaaAmRange
import Derived.Test.YtbcfhiohdamcjaaAmInsC
import Derived.Test.YtbcfhiohdamcjaaAmBits
import Derived.Test.YtbcfhiohdamcjaaTab
namespace Go.Proofs.Ytbcfhiohdamcjaa.Tr
open Go Go.RowKit Am
set_option maxRecDepth 100000
set_option linter.unusedSimpArgs false
set_option linter.unusedVariables false
attribute [-simp] Am.binEv Am.intBin Am.read1
attribute [local simp] binEv_lss binEv_leq binEv_gtr binEv_geq binEv_eql binEv_neq binEv_add binEv_sub binEv_mul read1_ro read1_mu
variable {R : Ro}
structure ND where
  side : Int
  f : Int
  s : Int
  sh : Int
  a : Int
  b : Int
  c : Int
def ND.cells (x : ND) : List AV := [.int .i64 x.side, .int .i64 x.f, .int .i64 x.s, .int .i64 x.sh, .int .i64 x.a, .int .i64 x.b, .int .i64 x.c]
def ND.pane (x : ND) : List AV := [.int .i64 x.a, .int .i64 x.b, .int .i64 x.c]
def ndV : List ND → List AV
  | [] => []
  | x :: l => x.cells ++ ndV l
theorem ndV_len : ∀ l, (ndV l).length = l.length * 7
  | [] => rfl
  | x :: l => by simp [ndV, ND.cells, ndV_len l]; omega
theorem ndV_one : ∀ l, (ndV l).all AV.oneCell = true
  | [] => rfl
  | x :: l => by simp only [ndV, List.all_append, ndV_one l]; rfl
theorem ndV_at : ∀ (l : List ND) (i : Nat) (x : ND), l[i]? = some x → ((ndV l).drop (i * 7)).take 7 = x.cells
  | [], i, x, h => by simp at h
  | y :: l, 0, x, h => by simp at h; subst h; simp [ndV, ND.cells]
  | y :: l, i + 1, x, h => by
    have := ndV_at l i x (by simpa using h)
    have e1 : (i + 1) * 7 = 7 + i * 7 := by omega
    rw [e1, ← List.drop_drop]
    simpa [ndV, ND.cells] using this
def lv (N : List ND) : List ND := N.filter fun x => decide (x.side = 0)
theorem lv_succ {N : List ND} {i : Nat} {x : ND} (h : N[i]? = some x) : lv (N.take (i + 1)) = lv (N.take i) ++ if x.side = 0 then [x] else [] := by
  unfold lv
  rw [List.take_add_one, h, Option.toList_some, List.filter_append]
  by_cases hs : x.side = 0 <;> simp [hs]
theorem lv_get {N : List ND} {i : Nat} {x : ND} (h : N[i]? = some x) (hs : x.side = 0) : (lv N)[(lv (N.take i)).length]? = some x := by
  obtain ⟨hi, rfl⟩ := List.getElem?_eq_some_iff.1 h
  have e : N = N.take i ++ N[i] :: N.drop (i + 1) := by rw [← List.drop_eq_getElem_cons hi, List.take_append_drop]
  have : lv N = lv (N.take i) ++ N[i] :: lv (N.drop (i + 1)) := by
    conv => lhs; rw [e]
    unfold lv
    rw [List.filter_append, List.filter_cons, if_pos (by simpa using hs)]
  rw [this, List.getElem?_append_right (Nat.le_refl _)]
  simp
theorem app_of {H G : AH} (hl : H.length ≤ G.length) (hk : ∀ i, i < H.length → G[i]? = H[i]?) : ∃ X, G = H ++ X := by
  refine ⟨G.drop H.length, ?_⟩
  apply List.ext_getElem?
  intro i
  by_cases hi : i < H.length
  · rw [List.getElem?_append_left hi, hk i hi]
  · rw [List.getElem?_append_right (by omega), List.getElem?_drop]
    congr 1; omega
theorem nodes_ok {H : AH} {t j n : Nat} {cp : Cap} (ht : H[t]? = some (.cells [.slice (.mu j) 0 n cp] 58)) (hn : 0 < n) : ACalls Try.prog R 40 [.ptr (.mu t) 0] H fun v H' => v = .slice (.mu j) 0 n cp ∧ H' = H := by
  have hn0 : ¬ n = 0 := by omega
  refine ACalls.of_wpE Fns.ok40 (by simp [Fns.a40]) ?_
  simp [Fns.a40, eqEv, ht, hn0]
theorem clone_ok {H : AH} {j n : Nat} {cp : Cap} {C : List AV} {N : List ND} (hj : (H[j]?).bind AO.content = some C) (hC : C.take (n * 7) = ndV N) (hN : N.length = n) (hn : 0 < n) (hb : n ≤ 1000) :
    ACalls Try.prog R 39 [.slice (.mu j) 0 n cp] H fun v H' => v = .slice (.mu (H.length + 1)) 0 n (.opn 0) ∧ H' = H ++ [.cells [] 55, .row (ndV N) 55 7] := by
  have hjl : j < H.length := by
    cases h : H[j]? with
    | none => rw [h] at hj; cases hj
    | some o => exact (List.getElem?_eq_some_iff.1 h).1
  have hlen : n * 7 ≤ C.length := by
    have := congrArg List.length hC
    rw [List.length_take, ndV_len, hN] at this; omega
  have ha : appendEv R (H ++ [AO.cells [] 55]) 55 7 56 (.slice (.mu H.length) 0 0 (.known 0)) (.slice (.mu j) 0 n cp) = some (.slice (.mu (H.length + 1)) 0 n (.opn 0), H ++ [.cells [] 55, .row (ndV N) 55 7]) := by
    have h1 : ((H ++ [AO.cells [] 55])[j]?).bind AO.content = some C := by rw [List.getElem?_append_left hjl]; exact hj
    have h2 : ((H ++ [AO.cells [] 55])[H.length]?) = some (.cells [] 55) := by simp
    simp only [appendEv, srcEv, readN, h1, Nat.zero_add, List.drop_zero]
    rw [if_pos hlen, hC]
    simp only [Option.map_some]
    rw [if_pos ⟨by omega, by decide, by decide, ndV_one N⟩, if_neg (by omega)]
    simp only [h2, Option.bind_some, AO.content, Nat.zero_mul, Nat.add_zero, List.length_nil, Nat.le_refl, if_true, List.take_zero, List.nil_append]
    simp
  refine ACalls.of_wpE Fns.ok39 (by simp [Fns.a39]) ?_
  simp [Fns.a39, eqEv, zerosEv, fillA, ha]
theorem panes_ok (H : AH) (v : AV) (hv : v.oneCell = true) (hc : v.cells = [v]) : ACalls Try.prog R 22 [v] H fun u H' => u = .fn (.func 38) [] [.ptr (.mu H.length) 0] ∧ H' = H ++ [.cells [v] 26] := by
  refine ACalls.of_wpE Fns.ok22 (by simp [Fns.a22]) ?_
  simp only [AV.oneCell, AV.cells] at hv hc
  simp [Fns.a22, hv, hc]
/-- The iterator, whatever its rounds do. -/
theorem iter_ok {H : AH} {l q t j n : Nat} {cp : Cap} {C : List AV} {N : List ND} (J : Nat → AH → Prop) (hq : H[q]? = some (.cells [.ptr (.mu t) 0] 26)) (ht : H[t]? = some (.cells [.slice (.mu j) 0 n cp] 58)) (hj : (H[j]?).bind AO.content = some C) (hC : C.take (n * 7) = ndV N) (hN : N.length = n) (hn : 0 < n) (hb : n ≤ 1000)
    (hJs : ∀ k G X, J k G → J k (G ++ X)) (hJ0 : J 0 H)
    (hY : ∀ k x G, (lv N)[k]? = some x → J k G → YCall Try.prog R l [.agg x.pane] G fun v G' => v = .bool true ∧ (∀ (r : Nat) D, H.length ≤ r → G[r]? = some (AO.row D 55 7) → G'[r]? = some (AO.row D 55 7)) ∧ J (k + 1) G') :
    ACalls Try.prog R 38 [.raw (.func (.yield l) #[] #[]), .ptr (.mu q) 0] H fun v G => J (lv N).length G := by
  refine ACalls.of_wpR Fns.ok38 (by simp [Fns.a38]) ?_
  simp [Fns.a38, hq]
  refine (nodes_ok ht hn).mono ?_
  rintro v H ⟨rfl, rfl⟩
  simp
  refine (clone_ok hj hC hN hn hb).mono ?_
  rintro v H1 ⟨rfl, rfl⟩
  simp
  refine AWpR.loop (fun ms e G => ms = [] ∧ e 0 = .raw (.func (.yield l) #[] #[]) ∧ e 7 = .slice (.mu (H.length + 1)) 0 n (.opn 0) ∧ e 8 = .int .i64 n ∧ G[H.length + 1]? = some (.row (ndV N) 55 7) ∧ ∃ i : Nat, e 9 = .int .i64 i ∧ i ≤ n ∧ J (lv (N.take i)).length G) (fun e _ => match e 9 with | .int _ i => ((n : Int) - i).toNat | _ => 0)
    ⟨rfl, by simp, by simp, by simp, by simp, 0, by simp, by omega, hJs 0 _ _ hJ0⟩ ?_
  rintro ms e G ⟨rfl, h0, h7, h8, hr, i, h9, hi, hJ⟩
  refine wpR_sound _ ?_
  by_cases hlt : i < n
  · have hlt' : (i : Int) < (n : Int) := by omega
    have hw1 : IntKind.i64.wrap ((i : Int) + 1) = (i : Int) + 1 := by rw [wrap_nat] <;> omega
    have hil : i < N.length := by omega
    have hx : N[i]? = some N[i] := List.getElem?_eq_getElem hil
    have hrd := ndV_at N i _ hx
    have hfit : i * 7 + 7 ≤ (ndV N).length := by rw [ndV_len]; omega
    have hsu := lv_succ hx
    by_cases hs : N[i].side = 0
    · have hyc := hY _ _ (G ++ [.cells N[i].cells 55]) (lv_get hx hs) (hJs _ _ _ hJ)
      rw [if_pos hs] at hsu
      simp only [ND.cells] at hrd hyc
      simp only [ND.pane] at hyc
      simp [h0, h7, h8, h9, hlt, hlt', hr, hrd, hfit, writeN, AO.content, AO.withContent, splice, hs]
      rw [hs] at hyc
      refine YCall.mono _ _ hyc ?_
      rintro v G' ⟨rfl, hst, hJ'⟩
      have hr' := hst (H.length + 1) (ndV N) (by omega) (by rw [List.getElem?_append_left (List.getElem?_eq_some_iff.1 hr).1]; exact hr)
      simp [h0, h7, h8, h9, hw1, hr']
      exact ⟨⟨i + 1, by simp, by omega, by rw [hsu]; simpa using hJ'⟩, by omega⟩
    · rw [if_neg hs] at hsu
      simp only [ND.cells] at hrd
      simp [h0, h7, h8, h9, hlt, hlt', hr, hrd, hfit, writeN, AO.content, AO.withContent, splice, hs, hw1]
      refine ⟨⟨?_, i + 1, by simp, by omega, by rw [hsu]; simpa using hJs _ _ _ hJ⟩, by omega⟩
      rw [List.getElem?_append_left (List.getElem?_eq_some_iff.1 hr).1]; exact hr
  · obtain rfl : i = n := by omega
    rw [← hN, List.take_length] at hJ
    simp [h8, h9]
    exact hJ
end Go.Proofs.Ytbcfhiohdamcjaa.Tr
