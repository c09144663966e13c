/- A tree that may be written: its nodes' numbers moved. -/
import Derived.Test.YtbcfhiohdamcjaaTrLeaf
import Derived.Test.YtbcfhiohdamcjaaAmInsC
namespace Go.Proofs.Ytbcfhiohdamcjaa.Tr
open Go Go.RowKit Am
set_option maxRecDepth 100000
set_option linter.unusedSimpArgs false
set_option linter.unusedVariables false
attribute [-simp] Am.binEv Am.intBin Am.read1
attribute [local simp] binEv_lss binEv_leq binEv_gtr binEv_geq binEv_eql binEv_neq binEv_add binEv_sub binEv_mul read1_ro read1_mu
variable {R : Ro}
/-- The nodes' own block. -/
def TObj (cp : Cap) (N : List ND) (o : AO) : Prop := (cp = .opn 0 ∧ o = .row (ndV N) 55 7) ∨ (cp = .known 1 ∧ N.length = 1 ∧ o = .cells (ndV N) 55)
structure TreM (H : AH) (t j : Nat) (cp : Cap) (N : List ND) : Prop where
  ht : H[t]? = some (.cells [.slice (.mu j) 0 N.length cp] 58)
  obj : ∃ o, H[j]? = some o ∧ TObj cp N o
  pos : 0 < N.length
  le : N.length ≤ 1000
theorem TObj.content {cp : Cap} {N : List ND} {o : AO} (h : TObj cp N o) : o.content = some (ndV N) := by
  rcases h with ⟨_, rfl⟩ | ⟨_, _, rfl⟩ <;> rfl
theorem TObj.with {cp : Cap} {N M : List ND} {o : AO} (h : TObj cp N o) (hl : M.length = N.length) : TObj cp M (o.withContent (ndV M)) := by
  rcases h with ⟨h, rfl⟩ | ⟨h, h2, rfl⟩
  · exact .inl ⟨h, rfl⟩
  · exact .inr ⟨h, by omega, rfl⟩
theorem TreM.tre {H : AH} {t j : Nat} {cp : Cap} {N : List ND} (h : TreM H t j cp N) : Tre H t j N.length cp (ndV N) N := by
  obtain ⟨o, ho, hc⟩ := h.obj
  exact ⟨h.ht, by rw [ho]; exact hc.content, List.take_of_length_le (by rw [ndV_len]; omega), rfl, h.pos, h.le⟩
theorem TreM.hr {H : AH} {t j : Nat} {cp : Cap} {N : List ND} (h : TreM H t j cp N) : (H[j]?).bind AO.content = some (ndV N) := h.tre.hj
theorem TreM.jt {H : AH} {t j : Nat} {cp : Cap} {N : List ND} (h : TreM H t j cp N) : j ≠ t := by
  rintro rfl
  obtain ⟨o, ho, hc⟩ := h.obj
  rw [h.ht] at ho
  cases ho
  rcases hc with ⟨_, e⟩ | ⟨_, _, e⟩ <;> simp at e
theorem TreM.jlt {H : AH} {t j : Nat} {cp : Cap} {N : List ND} (h : TreM H t j cp N) : j < H.length := by
  obtain ⟨o, ho, hc⟩ := h.obj
  exact (List.getElem?_eq_some_iff.1 ho).1
theorem TreM.tlt {H : AH} {t j : Nat} {cp : Cap} {N : List ND} (h : TreM H t j cp N) : t < H.length := (List.getElem?_eq_some_iff.1 h.ht).1
theorem TreM.app {H : AH} {t j : Nat} {cp : Cap} {N : List ND} (h : TreM H t j cp N) (X : AH) : TreM (H ++ X) t j cp N := by
  obtain ⟨o, ho, hc⟩ := h.obj
  exact ⟨get_app h.ht, ⟨o, get_app ho, hc⟩, h.pos, h.le⟩
theorem TreM.frame {H G : AH} {t j : Nat} {cp : Cap} {N : List ND} (h : TreM H t j cp N) (ht : G[t]? = H[t]?) (hj : G[j]? = H[j]?) : TreM G t j cp N := by
  obtain ⟨o, ho, hc⟩ := h.obj
  exact ⟨ht.trans h.ht, ⟨o, hj.trans ho, hc⟩, h.pos, h.le⟩
theorem ndV_get {N : List ND} {i : Nat} {x : ND} (h : N[i]? = some x) (k : Nat) (hk : k < 7) : (ndV N)[i * 7 + k]? = x.cells[k]? := by
  have := ndV_at N i x h
  rw [← this, List.getElem?_take, if_pos hk, List.getElem?_drop]
theorem ndV_set : ∀ (N : List ND) (i : Nat) (x x' : ND) (k : Nat) (vs : List AV), N[i]? = some x → k + vs.length ≤ 7 → splice x.cells k vs = x'.cells → splice (ndV N) (i * 7 + k) vs = ndV (N.set i x')
  | [], i, x, x', k, vs, h, _, _ => by simp at h
  | y :: N, 0, x, x', k, vs, h, hk, hs => by
    simp at h; subst h
    have hl : y.cells.length = 7 := rfl
    simp only [ndV, List.set_cons_zero, Nat.zero_mul, Nat.zero_add, splice] at hs ⊢
    rw [← hs, List.take_append_of_le_length (by omega), List.drop_append_of_le_length (by omega)]
    simp
  | y :: N, i + 1, x, x', k, vs, h, hk, hs => by
    have ih := ndV_set N i x x' k vs (by simpa using h) hk hs
    have hl : y.cells.length = 7 := rfl
    simp only [ndV, List.set_cons_succ]
    rw [← ih]
    have e1 : (i + 1) * 7 + k = y.cells.length + (i * 7 + k) := by omega
    unfold splice
    rw [e1, List.take_length_add_append, Nat.add_assoc, List.drop_length_add_append]
    simp
/-- Cells of one node written. -/
theorem TreM.write {H : AH} {t j : Nat} {cp : Cap} {N : List ND} (h : TreM H t j cp N) {i k : Nat} {x x' : ND} {vs : List AV} (hx : N[i]? = some x) (hk : k + vs.length ≤ 7) (ho : vs.all AV.oneCell = true) (hs : splice x.cells k vs = x'.cells) :
    ∃ G, writeN H j (i * 7 + k) vs = some G ∧ TreM G t j cp (N.set i x') ∧ (∀ m, m ≠ j → G[m]? = H[m]?) ∧ G.length = H.length := by
  obtain ⟨o, hj, hc⟩ := h.obj
  have hil := (List.getElem?_eq_some_iff.1 hx).1
  have hfit : i * 7 + k + vs.length ≤ (ndV N).length := by rw [ndV_len]; omega
  refine ⟨H.set j (o.withContent (ndV (N.set i x'))), ?_, ?_, fun m hm => by rw [List.getElem?_set_ne (Ne.symm hm)], by simp⟩
  · unfold writeN
    rw [hj]
    simp only [hc.content]
    rw [if_pos ⟨hfit, ho⟩, ndV_set N i x x' k vs hx hk hs]
  · refine ⟨?_, ⟨_, List.getElem?_set_self h.jlt, hc.with (by simp)⟩, by simpa using h.pos, by simpa using h.le⟩
    rw [List.getElem?_set_ne h.jt, List.length_set]; exact h.ht
/-- Numbers of nodes from a place on, moved. -/
def mvZ (a b z : Int) : Int := if a ≤ z then z + b else z
def mvN (a b : Int) (x : ND) : ND := if x.side = 0 then x else { x with f := mvZ a b x.f, s := mvZ a b x.s }
def bnd (N : List ND) : Prop := ∀ x ∈ N, 0 ≤ x.f ∧ x.f ≤ 100000 ∧ 0 ≤ x.s ∧ x.s ≤ 100000 ∧ 0 ≤ x.sh ∧ x.sh ≤ 99
theorem moves_ok {H : AH} {t j : Nat} {cp : Cap} {N : List ND} (h : TreM H t j cp N) (hb : bnd N) (a b : Int) (hb1 : -10 ≤ b) (hb2 : b ≤ 10) :
    ACalls Try.prog R 36 [.ptr (.mu t) 0, .int .i64 a, .int .i64 b] H fun v G => v = .tuple [] ∧ TreM G t j cp (N.map (mvN a b)) ∧ (∀ m, m ≠ j → G[m]? = H[m]?) ∧ G.length = H.length := by
  have hle := h.le
  refine ACalls.of_wpE Fns.ok36 (by simp [Fns.a36]) ?_
  simp [Fns.a36, h.ht, AO.content]
  refine AWp.loop (fun e G => e 0 = .ptr (.mu t) 0 ∧ e 1 = .int .i64 a ∧ e 2 = .int .i64 b ∧ e 12 = .int .i64 N.length ∧ ∃ i : Nat, e 13 = .int .i64 i ∧ i ≤ N.length ∧ TreM G t j cp ((N.take i).map (mvN a b) ++ N.drop i) ∧ (∀ m, m ≠ j → G[m]? = H[m]?) ∧ G.length = H.length) (fun e _ => match e 13 with | .int _ i => ((N.length : Int) - i).toNat | _ => 0)
    ⟨by simp, by simp, by simp, by simp, 0, by simp, by omega, by simpa using h, fun _ _ => rfl, rfl⟩ ?_
  rintro e G ⟨h0, h1, h2, h12, i, h13, hi, hT, hold, hgl⟩
  refine wpE_sound _ ?_
  by_cases hlt : i < N.length
  · have hlt' : (i : Int) < (N.length : Int) := by omega
    have hw1 : IntKind.i64.wrap ((i : Int) + 1) = (i : Int) + 1 := by rw [wrap_nat] <;> omega
    obtain ⟨x, hx⟩ : ∃ x, N[i]? = some x := ⟨_, List.getElem?_eq_getElem hlt⟩
    obtain ⟨b1, b2, b3, b4, _, _⟩ := hb x (List.mem_of_getElem? hx)
    have htl : ((N.take i).map (mvN a b)).length = i := by simp; omega
    have hll : ((N.take i).map (mvN a b) ++ N.drop i).length = N.length := by simp; omega
    have hx1 : ((N.take i).map (mvN a b) ++ N.drop i)[i]? = some x := by
      rw [List.getElem?_append_right (by omega), htl, List.getElem?_drop]; simpa using hx
    have hnext : ∀ y, y = mvN a b x → ((N.take i).map (mvN a b) ++ N.drop i).set i y = (N.take (i + 1)).map (mvN a b) ++ N.drop (i + 1) := fun y hy => by
      rw [List.set_append, if_neg (by omega), htl, Nat.sub_self, List.take_add_one, hx, Option.toList_some, List.map_append, List.append_assoc]
      have : N.drop i = x :: N.drop (i + 1) := by
        rw [List.drop_eq_getElem_cons hlt]; congr 1
        rw [List.getElem?_eq_getElem hlt] at hx; exact Option.some.inj hx
      rw [this, hy]; simp
    generalize (N.take i).map (mvN a b) ++ N.drop i = M at hT hll hx1 hnext
    have gt := hT.ht
    rw [hll] at gt
    have gr := hT.hr
    have c0 := ndV_get hx1 0 (by omega)
    have c1 := ndV_get hx1 1 (by omega)
    have c2 := ndV_get hx1 2 (by omega)
    simp [ND.cells] at c0 c1 c2
    have f1 : IntKind.i64.wrap (x.f + b) = x.f + b := by simp only [IntKind.wrap, IntKind.bits, IntKind.signed]; simp; omega
    have f2 : IntKind.i64.wrap (x.s + b) = x.s + b := by simp only [IntKind.wrap, IntKind.bits, IntKind.signed]; simp; omega
    by_cases hs : x.side = 0
    · have hy := hnext x (by unfold mvN; rw [if_pos hs])
      have hself : M.set i x = M := by
        obtain ⟨hl, rfl⟩ := List.getElem?_eq_some_iff.1 hx1
        exact List.set_getElem_self hl
      rw [hself] at hy
      rw [hy] at hT
      simp [h0, h1, h2, h12, h13, hlt, hlt', gt, gr, c0, hs, hw1, AO.content]
      exact ⟨⟨i + 1, by simp, by omega, by simpa using hT, hold, hgl⟩, by omega⟩
    · have mv : mvN a b x = { x with f := mvZ a b x.f, s := mvZ a b x.s } := by unfold mvN; rw [if_neg hs]
      by_cases hf : a ≤ x.f
      · obtain ⟨G1, w1, T1, k1, l1⟩ := hT.write (k := 1) (vs := [.int .i64 (x.f + b)]) (x' := { x with f := x.f + b }) hx1 (by simp) rfl rfl
        have hl1 : (M.set i { x with f := x.f + b }).length = N.length := by simp [hll]
        have gt1 := T1.ht
        rw [hl1] at gt1
        have gr1 := T1.hr
        have hx2 : (M.set i { x with f := x.f + b })[i]? = some { x with f := x.f + b } := List.getElem?_set_self (by omega)
        have d2 := ndV_get hx2 2 (by omega)
        simp [ND.cells] at d2
        by_cases hss : a ≤ x.s
        · obtain ⟨G2, w2, T2, k2, l2⟩ := T1.write (k := 2) (vs := [.int .i64 (x.s + b)]) (x' := { x with f := x.f + b, s := x.s + b }) hx2 (by simp) rfl rfl
          rw [List.set_set, hnext _ (by rw [mv]; simp [mvZ, hf, hss])] at T2
          simp [h0, h1, h2, h12, h13, hlt, hlt', gt, gr, c0, c1, c2, hs, hw1, AO.content, hf, f1, w1, gt1, gr1, d2, hss, f2, w2]
          exact ⟨⟨i + 1, by simp, by omega, by simpa using T2, fun m hm => by rw [k2 m hm, k1 m hm, hold m hm], by omega⟩, by omega⟩
        · rw [hnext _ (by rw [mv]; simp [mvZ, hf, hss])] at T1
          simp [h0, h1, h2, h12, h13, hlt, hlt', gt, gr, c0, c1, c2, hs, hw1, AO.content, hf, f1, w1, gt1, gr1, d2, hss]
          exact ⟨⟨i + 1, by simp, by omega, by simpa using T1, fun m hm => by rw [k1 m hm, hold m hm], by omega⟩, by omega⟩
      · by_cases hss : a ≤ x.s
        · obtain ⟨G2, w2, T2, k2, l2⟩ := hT.write (k := 2) (vs := [.int .i64 (x.s + b)]) (x' := { x with s := x.s + b }) hx1 (by simp) rfl rfl
          rw [hnext _ (by rw [mv]; simp [mvZ, hf, hss])] at T2
          simp [h0, h1, h2, h12, h13, hlt, hlt', gt, gr, c0, c1, c2, hs, hw1, AO.content, hf, hss, f2, w2]
          exact ⟨⟨i + 1, by simp, by omega, by simpa using T2, fun m hm => by rw [k2 m hm, hold m hm], by omega⟩, by omega⟩
        · have hself : M.set i x = M := by
            obtain ⟨hl, rfl⟩ := List.getElem?_eq_some_iff.1 hx1
            exact List.set_getElem_self hl
          have hy := hnext x (by rw [mv]; simp [mvZ, hf, hss])
          rw [hself] at hy
          rw [hy] at hT
          simp [h0, h1, h2, h12, h13, hlt, hlt', gt, gr, c0, c1, c2, hs, hw1, AO.content, hf, hss]
          exact ⟨⟨i + 1, by simp, by omega, by simpa using hT, hold, hgl⟩, by omega⟩
  · obtain rfl : i = N.length := by omega
    rw [List.take_length, List.drop_length, List.append_nil] at hT
    simp [h12, h13]
    exact ⟨hT, hold, hgl⟩
end Go.Proofs.Ytbcfhiohdamcjaa.Tr
namespace Go.Proofs.Ytbcfhiohdamcjaa.Tr
open Go Go.RowKit Am
set_option maxRecDepth 100000
set_option maxHeartbeats 1000000
set_option linter.unusedSimpArgs false
set_option linter.unusedVariables false
attribute [-simp] Am.binEv Am.intBin Am.read1
attribute [local simp] binEv_lss binEv_leq binEv_gtr binEv_geq binEv_eql binEv_neq binEv_add binEv_sub binEv_mul read1_ro read1_mu
variable {R : Ro}
def leafN (p : PA) : ND := ⟨0, 0, 0, 0, p.a, p.b, p.c⟩
theorem ins_ok : FnOk Try.prog 37 (insF 55 7 56 [.int .i64 0, .int .i64 0, .int .i64 0, .int .i64 0, .int .i64 0, .int .i64 0, .int .i64 0] #[56, 56] #[4] 52) := Fns.ok37
theorem del_ok : FnOk Try.prog 45 (delF 55 7 56 [.int .i64 0, .int .i64 0, .int .i64 0, .int .i64 0, .int .i64 0, .int .i64 0, .int .i64 0]) := Fns.ok45
theorem ndV_app : ∀ (A B : List ND), ndV (A ++ B) = ndV A ++ ndV B
  | [], B => rfl
  | x :: A, B => by simp [ndV, ndV_app A B]
theorem ndV_take : ∀ (N : List ND) (i : Nat), (ndV N).take (i * 7) = ndV (N.take i)
  | [], i => by simp [ndV]
  | x :: N, 0 => by simp [ndV]
  | x :: N, i + 1 => by
    have e : (i + 1) * 7 = x.cells.length + i * 7 := by simp [ND.cells]; omega
    rw [e]; simp only [ndV, List.take_succ_cons, List.take_length_add_append, ndV_take N i]
theorem ndV_drop : ∀ (N : List ND) (i : Nat), (ndV N).drop (i * 7) = ndV (N.drop i)
  | [], i => by simp [ndV]
  | x :: N, 0 => by simp [ndV]
  | x :: N, i + 1 => by
    have e : (i + 1) * 7 = x.cells.length + i * 7 := by simp [ND.cells]; omega
    rw [e]; simp only [ndV, List.drop_succ_cons, List.drop_length_add_append, ndV_drop N i]
theorem new_ok (p : PA) (H : AH) : ACalls Try.prog R 9 [p.av] H fun v G => v = .ptr (.mu (H.length + 2)) 0 ∧ G = H ++ [.cells p.cells 32, .cells (ndV [leafN p]) 55, .cells [.slice (.mu (H.length + 1)) 0 1 (.known 1)] 58] := by
  refine ACalls.of_wpE Fns.ok9 (by simp [Fns.a9]) ?_
  simp [Fns.a9, PA.av, PA.cells, AO.content, readN, fillA, splice, zerosEv, ndV, leafN, ND.cells]
theorem new_tre (p : PA) (H : AH) : TreM (H ++ [.cells p.cells 32, .cells (ndV [leafN p]) 55, .cells [.slice (.mu (H.length + 1)) 0 1 (.known 1)] 58]) (H.length + 2) (H.length + 1) (.known 1) [leafN p] :=
  ⟨by simp, ⟨_, by simp, .inr ⟨rfl, rfl, rfl⟩⟩, by simp, by simp⟩
def zeroN : ND := ⟨0, 0, 0, 0, 0, 0, 0⟩
def nodeV (N : List ND) (i : Int) : AV := if i < 0 then .tuple [.agg zeroN.cells, .bool false] else match N[i.toNat]? with
  | some x => .tuple [.agg x.cells, .bool true]
  | none => .tuple [.agg zeroN.cells, .bool false]
theorem node_ok {H : AH} {t j n : Nat} {cp : Cap} {C : List AV} {N : List ND} (h : Tre H t j n cp C N) (i : Int) : ACalls Try.prog R 32 [.ptr (.mu t) 0, .int .i64 i] H fun v G => G = H ∧ v = nodeV N i := by
  refine ACalls.gc ?_
  refine ACalls.of_wpE Fns.ok32 (by simp [Fns.a32]) ?_
  simp [Fns.a32]
  refine (nodes_ok (get_app h.ht) h.pos).mono ?_
  rintro v G ⟨rfl, rfl⟩
  have hn := h.hn
  by_cases hi : i < 0
  · simp [hi, nodeV, zeroN, ND.cells, AO.content, AO.withContent, writeN, splice, readN, fillA, ren, renL]
  · by_cases hl : (n : Int) ≤ i
    · have hg : N[i.toNat]? = none := List.getElem?_eq_none (by omega)
      simp [hi, hl, hg, nodeV, zeroN, ND.cells, AO.content, AO.withContent, writeN, splice, readN, fillA, ren, renL]
    · obtain ⟨x, hx⟩ : ∃ x, N[i.toNat]? = some x := ⟨_, List.getElem?_eq_getElem (by omega)⟩
      have hil : i.toNat < n := by omega
      obtain ⟨k, rfl⟩ : ∃ k : Nat, i = k := ⟨i.toNat, by omega⟩
      have hrd := ndV_at N k x (by simpa using hx)
      have hfit : k * 7 + 7 ≤ C.length := by
        have := congrArg List.length h.hc
        rw [List.length_take, ndV_len, hn] at this
        simp at hil; omega
      have hrd2 : (C.drop (k * 7)).take 7 = x.cells := by
        rw [← hrd, ← h.hc, List.drop_take, List.take_take]
        congr 1
        simp at hil; omega
      have hr : ∀ X : AH, ((H ++ X)[j]?).bind AO.content = some C := fun X => by
        have hj := h.hj
        cases hg : H[j]? with
        | none => rw [hg] at hj; cases hj
        | some o => rw [get_app hg]; rw [hg] at hj; exact hj
      simp at hx hil
      have hk0 : ¬ (k : Int) < 0 := by omega
      have hil' : (k : Int) < n := by omega
      simp only [ND.cells] at hrd2
      simp [hk0, hl, hil, hil', hx, hr, hfit, hrd2, nodeV, zeroN, ND.cells, AO.content, AO.withContent, writeN, splice, readN, fillA, ren, renL]
theorem ins_tree {H : AH} {t j jv i : Nat} {cp cv : Cap} {M : List ND} (h : TreM H t j cp M) {a b : ND} (hV : H[jv]? = some (.cells (ndV [a, b]) 55)) (hi : i ≤ M.length) (h0 : 0 < i) (h1 : M.length ≤ 990) :
    ACalls Try.prog R 37 [.slice (.mu j) 0 M.length cp, .int .i64 i, .slice (.mu jv) 0 2 cv] H fun v G => ∃ r, v = .slice (.mu r) 0 (M.length + 2) (.opn 0) ∧ H.length ≤ r ∧ G[r]? = some (.row (ndV (M.take i ++ [a, b] ++ M.drop i)) 55 7) ∧ ∀ m, m < H.length → m ≠ j → G[m]? = H[m]? := by
  obtain ⟨o, ho, hc⟩ := h.obj
  have hpos := h.pos
  have hjl := h.jlt
  have hVl : (ndV [a, b]).length = 2 * 7 := by rw [ndV_len]; rfl
  have hcl : (ndV M).length = M.length * 7 := ndV_len M
  by_cases hl : i = M.length
  · subst hl
    rw [List.take_length, List.drop_length, List.append_nil, ndV_app]
    rcases hc with ⟨rfl, rfl⟩ | ⟨rfl, e1, rfl⟩
    · refine (ins_lastE ins_ok ho hcl hpos hV hVl (by omega) (by decide) (by decide) (by omega) (ndV_one _)).mono ?_
      rintro v G ⟨rfl, rfl⟩
      refine ⟨_, rfl, by omega, by rw [List.getElem?_append_right (by simp)]; simp, fun m hm hj => ?_⟩
      rw [List.getElem?_append_left (by simp; omega), List.getElem?_set_ne (Ne.symm hj), List.getElem?_append_left hm]
    · have := ins_knE (R := R) ins_ok ho hcl hpos hV hVl (by omega) (by decide) (by decide) (by omega) (ndV_one _) (n := M.length) (cv := cv)
      rw [show Cap.known 1 = Cap.known M.length by rw [e1]]
      refine this.mono ?_
      rintro v G ⟨rfl, rfl⟩
      refine ⟨_, rfl, by omega, by simp, fun m hm hj => ?_⟩
      rw [List.getElem?_append_left hm]
  · rcases hc with ⟨rfl, rfl⟩ | ⟨rfl, e1, rfl⟩
    · refine (ins_row Fns.mixed ins_ok rfl ho hV hcl hVl (i := i) (by omega) (by omega) (by decide) (by decide) (by omega) rfl (ndV_one _) (ndV_one _)).mono ?_
      rintro v G ⟨rfl, rfl⟩
      refine ⟨_, rfl, by omega, ?_, fun m hm hj => ?_⟩
      · rw [List.getElem?_append_right (by simp), ndV_take, ndV_drop, ← ndV_app, ← ndV_app]; simp
      · rw [List.getElem?_append_left (by simpa using hm), List.getElem?_set_ne (Ne.symm hj)]
    · omega
theorem del_tree {H : AH} {t j i : Nat} {cp : Cap} {M : List ND} (h : TreM H t j cp M) (hi : i < M.length) (h2 : 2 ≤ M.length) :
    ACalls Try.prog R 45 [.slice (.mu j) 0 M.length cp, .int .i64 i, .int .i64 ((i : Int) + 1)] H fun v G => ∃ r, v = .slice (.mu r) 0 (M.length - 1) (.opn 0) ∧ H.length ≤ r ∧ G[r]? = some (.row (ndV (M.take i ++ M.drop (i + 1))) 55 7) ∧ ∀ m, m < H.length → m ≠ j → G[m]? = H[m]? := by
  obtain ⟨o, ho, hc⟩ := h.obj
  have hle := h.le
  rcases hc with ⟨rfl, rfl⟩ | ⟨rfl, e1, rfl⟩
  · refine (del_row Fns.mixed del_ok rfl ho (ndV_len M) hi (by decide) (by decide) (by omega) rfl (ndV_one _)).mono ?_
    rintro v G ⟨rfl, rfl⟩
    refine ⟨_, rfl, by omega, ?_, fun m hm hj => ?_⟩
    · rw [List.getElem?_append_right (by simp), ndV_take, ndV_drop, ← ndV_app]; simp
    · rw [List.getElem?_append_left (by simpa using hm), List.getElem?_set_ne (Ne.symm hj)]
  · omega
/-- What an act leaves of what is not the tree's. -/
def Fr (H G : AH) (t j : Nat) : Prop := ∀ m, m < H.length → m ≠ t → m ≠ j → G[m]? = H[m]?
def ActOut (H : AH) (t j : Nat) (r : Int × List ND) (v : AV) (G : AH) : Prop := v = .int .i64 r.1 ∧ H.length ≤ G.length ∧ Fr H G t j ∧ ∃ j' cp', TreM G t j' cp' r.2 ∧ (j' = j ∨ H.length ≤ j')
def splitL (p q : PA) (side share : Int) (i : Nat) (N : List ND) : List ND :=
  ((N.map (mvN ((i : Int) + 1) 2)).take (i + 1) ++ [leafN p, leafN q] ++ (N.map (mvN ((i : Int) + 1) 2)).drop (i + 1)).set i ⟨side, (i : Int) + 1, (i : Int) + 2, share, 0, 0, 0⟩
def splitN (p q : PA) (side share : Int) (N : List ND) : Int × List ND :=
  if idx (isLeaf p) N < 0 then (4, N)
  else if hasP q N then (5, N)
  else if ¬ (side = 1 ∨ side = 2) ∨ share < 1 ∨ 99 < share then (1, N)
  else if (lv N).length = 16 then (6, N)
  else (0, splitL p q side share (N.findIdx (isLeaf p)) N)
theorem idx_cases (f : ND → Bool) (N : List ND) : (idx f N = -1 ∧ ∀ x ∈ N, f x = false) ∨ (N.findIdx f < N.length ∧ idx f N = (N.findIdx f : Int)) := by
  unfold idx
  split
  · rename_i h; exact .inr ⟨h, rfl⟩
  · rename_i h
    refine .inl ⟨rfl, fun x hx => ?_⟩
    rw [List.findIdx_lt_length] at h
    cases hf : f x with
    | false => rfl
    | true => exact absurd ⟨x, hx, hf⟩ h
theorem split_ok {H : AH} {t j : Nat} {cp : Cap} {N : List ND} (h : TreM H t j cp N) (hb : bnd N) (hN : N.length ≤ 900) (p q : PA) (side share : Int) :
    ACalls Try.prog R 19 [.ptr (.mu t) 0, p.av, q.av, .int .i64 side, .int .i64 share] H (ActOut H t j (splitN p q side share N)) := by
  refine ACalls.of_wpE Fns.ok19 (by simp [Fns.a19]) ?_
  obtain ⟨H1, hH1⟩ : ∃ H1, H1 = H ++ [AO.cells p.cells 32, AO.cells q.cells 32] := ⟨_, rfl⟩
  have hp : H1[H.length]? = some (.cells p.cells 32) := by rw [hH1]; simp
  have hq : H1[H.length + 1]? = some (.cells q.cells 32) := by rw [hH1]; simp
  have hT : TreM H1 t j cp N := by rw [hH1]; exact h.app _
  have hl1 : H1.length = H.length + 2 := by rw [hH1]; simp
  have hk1 : ∀ m, m < H.length → H1[m]? = H[m]? := fun m hm => by rw [hH1]; exact List.getElem?_append_left hm
  have same : ∀ c, splitN p q side share N = (c, N) → ActOut H t j (splitN p q side share N) (.int .i64 c) H1 :=
    fun c hc => by rw [hc]; exact ⟨rfl, by omega, fun m hm _ _ => hk1 m hm, j, cp, hT, .inl rfl⟩
  have hlf := leaf_ok (R := R) hT.tre p
  have hhs := has_ok (R := R) hT.tre q
  have hln := hT.tre.len (R := R)
  simp only [PA.av, PA.cells] at hlf hhs hp hq hH1
  simp [Fns.a19, PA.av, PA.cells]
  rw [← hH1]
  refine hlf.mono ?_
  rintro v G ⟨rfl, rfl⟩
  simp [eqEv]
  rcases idx_cases (isLeaf p) N with ⟨e, hno⟩ | ⟨hlt, e⟩
  · simp [e]
    exact same 4 (by unfold splitN; rw [if_pos (by omega)])
  have e0 : ¬ ((N.findIdx (isLeaf p) : Int) < 0) := by omega
  simp [e, e0, hq, AO.content, readN]
  refine hhs.mono ?_
  rintro v G ⟨rfl, rfl⟩
  have s0 : splitN p q side share N = if hasP q N then (5, N) else if ¬ (side = 1 ∨ side = 2) ∨ share < 1 ∨ 99 < share then (1, N) else if (lv N).length = 16 then (6, N) else (0, splitL p q side share (N.findIdx (isLeaf p)) N) := by
    unfold splitN; rw [if_neg (by omega)]
  cases hh : hasP q N with
  | true =>
    rw [hh, if_pos rfl] at s0
    simp
    exact same 5 s0
  | false =>
  rw [hh, if_neg (by decide)] at s0
  by_cases hc : ¬ (side = 1 ∨ side = 2) ∨ share < 1 ∨ 99 < share
  · rw [if_pos hc] at s0
    have r0 := same 1 s0
    by_cases c1 : side = 1
    · by_cases c3 : share < 1
      · simp [c1, c3]; rw [c1] at r0; exact r0
      · have c4 : 99 < share := by omega
        simp [c1, c3, c4]; rw [c1] at r0; exact r0
    · by_cases c2 : side = 2
      · by_cases c3 : share < 1
        · simp [c2, c3]; rw [c2] at r0; exact r0
        · have c4 : 99 < share := by omega
          simp [c2, c3, c4]; rw [c2] at r0; exact r0
      · simp [c1, c2]; exact r0
  rw [if_neg hc] at s0
  have c0 : side = 1 ∨ side = 2 := by omega
  have c3 : ¬ share < 1 := by omega
  have c4 : ¬ 99 < share := by omega
  obtain ⟨i, hi⟩ : ∃ i, i = N.findIdx (isLeaf p) := ⟨_, rfl⟩
  rw [← hi] at s0 hlt ⊢
  have w1 : IntKind.i64.wrap ((i : Int) + 1) = (i : Int) + 1 := by rw [wrap_nat] <;> omega
  have w2 : IntKind.i64.wrap ((i : Int) + 2) = (i : Int) + 2 := by rw [wrap_nat] <;> omega
  have hmv := moves_ok (R := R) hT hb ((i : Int) + 1) 2 (by omega) (by omega)
  have hside : side = 1 ∨ side = 2 := c0
  by_cases c5 : (lv N).length = 16
  · rw [if_pos c5] at s0
    have r0 := same 6 s0
    rcases c0 with rfl | rfl
    all_goals
      simp [c3, c4]
      refine hln.mono ?_
      rintro v G1 ⟨rfl, rfl⟩
      simp [c5]
      exact r0
  rw [if_neg c5] at s0
  have c6 : ¬ ((lv N).length : Int) = 16 := by omega
  rw [s0]
  obtain ⟨sd, hsd⟩ : ∃ sd, sd = side := ⟨_, rfl⟩
  rcases c0 with rfl | rfl
  all_goals
    simp [c3, c4]
    refine hln.mono ?_
    rintro v G1 ⟨rfl, rfl⟩
    simp [c5, c6, w1]
    refine hmv.mono ?_
    rintro v G1 ⟨rfl, hT1, hk2, hl2⟩
    simp
    refine AWp.sched [0, 1, 2, 3, 4, 5, 6, 7, 8, 9, 10, 11, 12, 13, 14, 15] Fns.mixed (by decide +kernel) ?_
    have jt := hT.jt
    have hp1 := (hk2 H.length (by have := h.jlt; omega)).trans hp
    have hq1 := (hk2 (H.length + 1) (by have := h.jlt; omega)).trans hq
    have ht1 := hT1.ht
    simp only [List.length_map] at ht1
    simp [hp1, hq1, ht1, w1, AO.content, readN, fillA, splice, zerosEv]
    have ft : ∀ X : AH, (G1 ++ X)[t]? = _ := fun X => get_app ht1
    have fp : ∀ X : AH, (G1 ++ X)[H.length]? = _ := fun X => get_app hp1
    have fq : ∀ X : AH, (G1 ++ X)[H.length + 1]? = _ := fun X => get_app hq1
    refine ⟨by simp [recheck, ft, fp, fq, AO.content, readN], ?_⟩
    have hins := ins_tree (R := R) (jv := G1.length) (i := i + 1) (cv := .known 2) (hT1.app [.cells (ndV [leafN p, leafN q]) 55]) (a := leafN p) (b := leafN q) (by simp) (by simp; omega) (by omega) (by simp; omega)
    simp only [List.length_map] at hins
    refine hins.mono ?_
    rintro v G2 ⟨r, rfl, hrl, hrow, hk3⟩
    have hjl := h.jlt
    have htl := h.tlt
    simp only [List.length_append, List.length_cons, List.length_nil] at hrl hk3
    have ht2 : G2[t]? = some (.cells [.slice (.mu j) 0 N.length cp] 58) := by
      rw [hk3 t (by omega) (Ne.symm jt), List.getElem?_append_left (by omega)]; exact ht1
    have hp2 : G2[H.length]? = _ := (hk3 _ (by omega) (by omega)).trans (fp _)
    have hq2 : G2[H.length + 1]? = _ := (hk3 _ (by omega) (by omega)).trans (fq _)
    have htl2 := (List.getElem?_eq_some_iff.1 ht2).1
    obtain ⟨G3, hG3⟩ : ∃ G3, G3 = G2.set t (.cells [.slice (.mu r) 0 (N.length + 2) (.opn 0)] 58) := ⟨_, rfl⟩
    obtain ⟨L, hL⟩ : ∃ L, L = (N.map (mvN ((i : Int) + 1) 2)).take (i + 1) ++ [leafN p, leafN q] ++ (N.map (mvN ((i : Int) + 1) 2)).drop (i + 1) := ⟨_, rfl⟩
    have hLl : L.length = N.length + 2 := by rw [hL]; simp; omega
    rw [← hL] at hrow
    have hT3 : TreM G3 t r (.opn 0) L := by
      refine ⟨by rw [hG3, List.getElem?_set_self htl2, hLl], ⟨_, by rw [hG3, List.getElem?_set_ne (by omega)]; exact hrow, .inl ⟨rfl, rfl⟩⟩, by omega, by omega⟩
    obtain ⟨x, hx⟩ : ∃ x, L[i]? = some x := ⟨_, List.getElem?_eq_getElem (by omega)⟩
    have gt3 := hT3.ht
    rw [hLl] at gt3
    have hil : (i : Int) < (N.length : Int) + 2 := by omega
    have hil2 : i < N.length + 2 := by omega
    obtain ⟨G4, w4, T4, k4, l4⟩ := hT3.write (k := 0) (vs := ND.cells ⟨sd, (i : Int) + 1, (i : Int) + 2, share, 0, 0, 0⟩) (x' := ⟨sd, (i : Int) + 1, (i : Int) + 2, share, 0, 0, 0⟩) hx (by simp [ND.cells]) rfl rfl
    simp only [ND.cells, Nat.add_zero] at w4
    rw [hsd] at w4 T4
    simp [recheck, ht2, hp2, hq2, AO.content, AO.withContent, readN, writeN, splice]
    rw [← hG3]
    simp [gt3, hil, hil2, w1, w2, fillA, splice, AO.content]
    rw [w4]
    simp
    have lrow := (List.getElem?_eq_some_iff.1 hrow).1
    refine ⟨rfl, by rw [l4, hG3]; simp; omega, fun m hm hmt hmj => ?_, r, .opn 0, by rw [hL] at T4; exact T4, .inr (by omega)⟩
    rw [k4 m (by omega), hG3, List.getElem?_set_ne (Ne.symm hmt), hk3 m (by omega) hmj, List.getElem?_append_left (by omega), hk2 m hmj, hk1 m hm]
theorem TreM.stored {G : AH} {t r : Nat} {s : AV} {L : List ND} (ht : G[t]? = some (.cells [s] 58)) (hr : G[r]? = some (.row (ndV L) 55 7)) (h0 : 0 < L.length) (h1 : L.length ≤ 1000) : TreM (G.set t (.cells [.slice (.mu r) 0 L.length (.opn 0)] 58)) t r (.opn 0) L := by
  have hne : t ≠ r := fun e => by rw [e, hr] at ht; cases ht
  exact ⟨List.getElem?_set_self (List.getElem?_eq_some_iff.1 ht).1, ⟨_, by rw [List.getElem?_set_ne hne]; exact hr, .inl ⟨rfl, rfl⟩⟩, h0, h1⟩
def leafI (p : PA) (N : List ND) : Nat := N.findIdx (isLeaf p)
/-- Close: the leaf 'i', the split 'u' above it. -/
def cutN (i : Nat) (N : List ND) : List ND := (N.take i ++ N.drop (i + 1)).map (mvN ((i : Int) + 1) (-1))
def closeL (i u : Nat) (N : List ND) : List ND := cutN u (cutN i N)
def closeN (p : PA) (N : List ND) : Int × List ND :=
  if idx (isLeaf p) N < 0 then (4, N)
  else if (lv N).length = 1 then (9, N)
  else (0, closeL (N.findIdx (isLeaf p)) (N.findIdx (isAbove (N.findIdx (isLeaf p)))) N)
theorem bnd_sub {N : List ND} (hb : bnd N) (i : Nat) : bnd (N.take i ++ N.drop (i + 1)) := fun x hx => by
  rw [List.mem_append] at hx
  rcases hx with hx | hx
  · exact hb x (List.mem_of_mem_take hx)
  · exact hb x (List.mem_of_mem_drop hx)
theorem close_ok {H : AH} {t j : Nat} {cp : Cap} {N : List ND} (h : TreM H t j cp N) (hb : bnd N) (p : PA)
    (hgood : N.findIdx (isLeaf p) < N.length → (lv N).length ≠ 1 → 3 ≤ N.length ∧ N.findIdx (isAbove (N.findIdx (isLeaf p))) < N.findIdx (isLeaf p) ∧ bnd ((N.take (N.findIdx (isLeaf p)) ++ N.drop (N.findIdx (isLeaf p) + 1)).map (mvN ((N.findIdx (isLeaf p) : Int) + 1) (-1)))) :
    ACalls Try.prog R 26 [.ptr (.mu t) 0, p.av] H (ActOut H t j (closeN p N)) := by
  have hle := h.le
  refine ACalls.of_wpE Fns.ok26 (by simp [Fns.a26]) ?_
  obtain ⟨H1, hH1⟩ : ∃ H1, H1 = H ++ [AO.cells p.cells 32] := ⟨_, rfl⟩
  have hp : H1[H.length]? = some (.cells p.cells 32) := by rw [hH1]; simp
  have hT : TreM H1 t j cp N := by rw [hH1]; exact h.app _
  have hl1 : H1.length = H.length + 1 := by rw [hH1]; simp
  have hk1 : ∀ m, m < H.length → H1[m]? = H[m]? := fun m hm => by rw [hH1]; exact List.getElem?_append_left hm
  have same : ∀ c, closeN p N = (c, N) → ActOut H t j (closeN p N) (.int .i64 c) H1 :=
    fun c hc => by rw [hc]; exact ⟨rfl, by omega, fun m hm _ _ => hk1 m hm, j, cp, hT, .inl rfl⟩
  have hlf := leaf_ok (R := R) hT.tre p
  have hln := hT.tre.len (R := R)
  simp only [PA.av, PA.cells] at hlf hp hH1
  simp [Fns.a26, PA.av, PA.cells]
  rw [← hH1]
  refine hlf.mono ?_
  rintro v G ⟨rfl, rfl⟩
  simp [eqEv]
  rcases idx_cases (isLeaf p) N with ⟨e, hno⟩ | ⟨hlt, e⟩
  · simp [e]
    exact same 4 (by unfold closeN; rw [if_pos (by omega)])
  have e0 : ¬ ((N.findIdx (isLeaf p) : Int) < 0) := by omega
  simp [e, e0]
  refine hln.mono ?_
  rintro v G1 ⟨rfl, rfl⟩
  have s0 : closeN p N = if (lv N).length = 1 then (9, N) else (0, closeL (N.findIdx (isLeaf p)) (N.findIdx (isAbove (N.findIdx (isLeaf p)))) N) := by
    unfold closeN; rw [if_neg (by omega)]
  by_cases c5 : (lv N).length = 1
  · rw [if_pos c5] at s0
    simp [c5]
    exact same 9 s0
  rw [if_neg c5] at s0
  obtain ⟨h3, hu, hb2⟩ := hgood hlt c5
  rw [s0]
  obtain ⟨i, hi⟩ : ∃ i, i = N.findIdx (isLeaf p) := ⟨_, rfl⟩
  rw [← hi] at s0 hlt hu hb2 ⊢
  have hab := above_ok (R := R) hT.tre i
  rcases idx_cases (isAbove i) N with ⟨e', hno⟩ | ⟨hlt', e'⟩
  · exfalso
    have := List.findIdx_lt_length.1 (show N.findIdx (isAbove i) < N.length by omega)
    obtain ⟨x, hx, hf⟩ := this
    rw [hno x hx] at hf; cases hf
  obtain ⟨u, hud⟩ : ∃ u, u = N.findIdx (isAbove i) := ⟨_, rfl⟩
  rw [e'] at hab
  rw [← hud] at hu hlt' hab e' ⊢
  have w1 : IntKind.i64.wrap ((i : Int) + 1) = (i : Int) + 1 := by rw [wrap_nat] <;> omega
  have w2 : IntKind.i64.wrap ((u : Int) + 1) = (u : Int) + 1 := by rw [wrap_nat] <;> omega
  have c6 : ¬ ((lv N).length : Int) = 1 := by omega
  have hl1' := h.jlt
  have htl := h.tlt
  have jt := h.jt
  simp [c6]
  refine hab.mono ?_
  rintro v G1 ⟨rfl, rfl⟩
  have gt1 := hT.ht
  simp [gt1, w1, AO.content]
  refine (del_tree hT hlt (by omega)).mono ?_
  rintro v G2 ⟨r, rfl, hrl, hrow, hk2⟩
  have ht2 := (hk2 t (by omega) (Ne.symm jt)).trans gt1
  have hT3 := TreM.stored ht2 hrow (by simp; omega) (by simp; omega)
  obtain ⟨A, hA⟩ : ∃ A, A = N.take i ++ N.drop (i + 1) := ⟨_, rfl⟩
  have hbA : bnd A := by rw [hA]; exact bnd_sub hb i
  have hAl : A.length = N.length - 1 := by rw [hA]; simp; omega
  rw [← hA] at hT3 hrow hb2
  rw [hAl] at hT3
  obtain ⟨G3, hG3⟩ : ∃ G3, G3 = G2.set t (.cells [.slice (.mu r) 0 (N.length - 1) (.opn 0)] 58) := ⟨_, rfl⟩
  rw [← hG3] at hT3
  have hrl2 := (List.getElem?_eq_some_iff.1 hrow).1
  have hk3 : ∀ m, m < H.length → m ≠ t → m ≠ j → G3[m]? = H[m]? := fun m hm hmt hmj => by
    rw [hG3, List.getElem?_set_ne (Ne.symm hmt), hk2 m (by omega) hmj, hk1 m hm]
  have hl3 : H.length ≤ G3.length := by rw [hG3]; simp; omega
  simp [ht2, AO.content, AO.withContent, writeN, splice]
  rw [← hG3, w1]
  refine (moves_ok hT3 hbA ((i : Int) + 1) (-1) (by omega) (by omega)).mono ?_
  rintro v G4 ⟨rfl, hT4, hk4, hl4⟩
  have gt4 := hT4.ht
  have hr3 := hT3.jlt
  obtain ⟨M, hM⟩ : ∃ M, M = A.map (mvN ((i : Int) + 1) (-1)) := ⟨_, rfl⟩
  rw [← hM] at hT4 gt4 hb2
  have hMl : M.length = N.length - 1 := by rw [hM]; simp [hAl]
  simp [gt4, w2, AO.content]
  refine (del_tree hT4 (i := u) (by omega) (by omega)).mono ?_
  rintro v G5 ⟨r2, rfl, hrl5, hrow5, hk5⟩
  have htG4 := hT4.tlt
  have ht5 := (hk5 t (by omega) (Ne.symm hT4.jt)).trans gt4
  have hT6 := TreM.stored ht5 hrow5 (by simp; omega) (by simp; omega)
  obtain ⟨B, hB⟩ : ∃ B, B = M.take u ++ M.drop (u + 1) := ⟨_, rfl⟩
  have hbB : bnd B := by rw [hB]; exact bnd_sub hb2 u
  have hBl : B.length = M.length - 1 := by rw [hB]; simp; omega
  rw [← hB] at hT6
  rw [hBl] at hT6
  obtain ⟨G6, hG6⟩ : ∃ G6, G6 = G5.set t (.cells [.slice (.mu r2) 0 (M.length - 1) (.opn 0)] 58) := ⟨_, rfl⟩
  rw [← hG6] at hT6
  have hrl6 := (List.getElem?_eq_some_iff.1 hrow5).1
  simp [ht5, AO.content, AO.withContent, writeN, splice]
  rw [← hG6, w2]
  refine (moves_ok hT6 hbB ((u : Int) + 1) (-1) (by omega) (by omega)).mono ?_
  rintro v G7 ⟨rfl, hT7, hk7, hl7⟩
  simp
  have hl6 : G5.length = G6.length := by rw [hG6]; simp
  refine ⟨rfl, by omega, fun m hm hmt hmj => ?_, r2, .opn 0, ?_, .inr (by omega)⟩
  · rw [hk7 m (by omega), hG6, List.getElem?_set_ne (Ne.symm hmt), hk5 m (by omega) (by omega), hk4 m (by omega), hk3 m hm hmt hmj]
  · unfold closeL
    unfold cutN
    rw [← hA, ← hM, ← hB]; exact hT7
end Go.Proofs.Ytbcfhiohdamcjaa.Tr
namespace Go.Proofs.Ytbcfhiohdamcjaa.Tr
open Go Go.RowKit Am
set_option maxRecDepth 100000
set_option maxHeartbeats 1000000
set_option linter.unusedSimpArgs false
set_option linter.unusedVariables false
attribute [-simp] Am.binEv Am.intBin Am.read1
attribute [local simp] binEv_lss binEv_leq binEv_gtr binEv_geq binEv_eql binEv_neq binEv_add binEv_sub binEv_mul read1_ro read1_mu
variable {R : Ro}
def ND.withPa (x : ND) (p : PA) : ND := { x with a := p.a, b := p.b, c := p.c }
def setPa (i : Nat) (p : PA) (N : List ND) : List ND := match N[i]? with
  | some x => N.set i (x.withPa p)
  | none => N
def swapN (p q : PA) (N : List ND) : Int × List ND :=
  if idx (isLeaf p) N < 0 ∨ idx (isLeaf q) N < 0 then (4, N)
  else (0, setPa (N.findIdx (isLeaf q)) p (setPa (N.findIdx (isLeaf p)) q N))
theorem setPa_len (i : Nat) (p : PA) (N : List ND) : (setPa i p N).length = N.length := by unfold setPa; split <;> simp
theorem TreM.setPa {H : AH} {t j : Nat} {cp : Cap} {N : List ND} (h : TreM H t j cp N) {i : Nat} (hi : i < N.length) (p : PA) :
    ∃ G, writeN H j (i * 7 + 4) p.cells = some G ∧ TreM G t j cp (Tr.setPa i p N) ∧ (∀ m, m ≠ j → G[m]? = H[m]?) ∧ G.length = H.length := by
  obtain ⟨x, hx⟩ : ∃ x, N[i]? = some x := ⟨_, List.getElem?_eq_getElem hi⟩
  have := h.write (k := 4) (vs := p.cells) (x' := x.withPa p) hx (by simp [PA.cells]) rfl rfl
  unfold Tr.setPa
  rw [hx]
  exact this
theorem swap_ok {H : AH} {t j : Nat} {cp : Cap} {N : List ND} (h : TreM H t j cp N) (p q : PA) :
    ACalls Try.prog R 28 [.ptr (.mu t) 0, p.av, q.av] H (ActOut H t j (swapN p q N)) := by
  have hle := h.le
  refine ACalls.of_wpE Fns.ok28 (by simp [Fns.a28]) ?_
  obtain ⟨H1, hH1⟩ : ∃ H1, H1 = H ++ [AO.cells p.cells 32, AO.cells q.cells 32] := ⟨_, rfl⟩
  have hp : H1[H.length]? = some (.cells p.cells 32) := by rw [hH1]; simp
  have hq : H1[H.length + 1]? = some (.cells q.cells 32) := by rw [hH1]; simp
  have hT : TreM H1 t j cp N := by rw [hH1]; exact h.app _
  have hl1 : H1.length = H.length + 2 := by rw [hH1]; simp
  have hk1 : ∀ m, m < H.length → H1[m]? = H[m]? := fun m hm => by rw [hH1]; exact List.getElem?_append_left hm
  have same : ∀ c, swapN p q N = (c, N) → ActOut H t j (swapN p q N) (.int .i64 c) H1 :=
    fun c hc => by rw [hc]; exact ⟨rfl, by omega, fun m hm _ _ => hk1 m hm, j, cp, hT, .inl rfl⟩
  have hlf := leaf_ok (R := R) hT.tre p
  have hlq := leaf_ok (R := R) hT.tre q
  simp only [PA.av, PA.cells] at hlf hlq hp hq hH1
  simp [Fns.a28, PA.av, PA.cells]
  rw [← hH1]
  refine AWp.sched [0, 1, 3, 4, 2, 5, 6, 7] Fns.mixed (by decide +kernel) ?_
  simp [hp, hq, AO.content, readN]
  refine hlf.mono ?_
  rintro v G ⟨rfl, rfl⟩
  simp [recheck, hp, hq, AO.content, readN]
  refine hlq.mono ?_
  rintro v G ⟨rfl, rfl⟩
  simp [recheck, hp, hq, AO.content, readN, eqEv]
  rcases idx_cases (isLeaf p) N with ⟨e, hno⟩ | ⟨hlt, e⟩
  · simp [e]
    exact same 4 (by unfold swapN; rw [if_pos (by omega)])
  have e0 : ¬ ((N.findIdx (isLeaf p) : Int) < 0) := by omega
  rcases idx_cases (isLeaf q) N with ⟨e', hno⟩ | ⟨hlt', e'⟩
  · simp [e, e0, e']
    exact same 4 (by unfold swapN; rw [if_pos (by omega)])
  have e0' : ¬ ((N.findIdx (isLeaf q) : Int) < 0) := by omega
  have s0 : swapN p q N = (0, setPa (N.findIdx (isLeaf q)) p (setPa (N.findIdx (isLeaf p)) q N)) := by
    unfold swapN; rw [if_neg (by omega)]
  rw [s0]
  simp [e, e0, e', e0']
  generalize N.findIdx (isLeaf p) = a at *
  generalize N.findIdx (isLeaf q) = b at *
  have gt := hT.ht
  obtain ⟨G1, w1, T1, k1, l1⟩ := hT.setPa hlt q
  obtain ⟨G2, w2, T2, k2, l2⟩ := T1.setPa (i := b) (by rw [setPa_len]; exact hlt') p
  have hjl := h.jlt
  have hp1 : G1[H.length]? = _ := (k1 _ (by omega)).trans hp
  have hq1 : G1[H.length + 1]? = _ := (k1 _ (by omega)).trans hq
  have gt1 : G1[t]? = _ := (k1 _ (Ne.symm h.jt)).trans gt
  simp only [PA.cells] at w1 w2
  refine AWp.sched [0, 1, 2, 3, 4, 5, 6, 7, 8, 9, 10, 11, 12, 13, 14, 15, 16, 17] Fns.mixed (by decide +kernel) ?_
  have ha : (a : Int) < (N.length : Int) := by omega
  have hb : (b : Int) < (N.length : Int) := by omega
  simp [hp, hq, gt, AO.content, readN, ha, hb, hlt, hlt']
  rw [w1]
  simp [recheck, hp1, hq1, gt1, AO.content, readN, ha, hb, hlt, hlt']
  rw [w2]
  simp
  exact ⟨rfl, by omega, fun m hm hmt hmj => by rw [k2 m hmj, k1 m hmj, hk1 m hm], j, cp, T2, .inl rfl⟩
def mxI (a b : Int) : Int := if a < b then b else a
def mnI (a b : Int) : Int := if b < a then b else a
theorem fold_mxI (a b : Int) : foldI (fun x y => if x < y then y else x) IntKind.i64 a [AV.int IntKind.i64 b] = some (.int .i64 (mxI a b)) := by simp [foldI, mxI]
theorem fold_mnI (a b : Int) : foldI (fun x y => if y < x then y else x) IntKind.i64 a [AV.int IntKind.i64 b] = some (.int .i64 (mnI a b)) := by simp [foldI, mnI]
def clamp (lo hi a : Int) : Int := mnI (mxI a lo) hi
theorem clamp_le {lo hi : Int} (h : lo ≤ hi) (a : Int) : lo ≤ clamp lo hi a ∧ clamp lo hi a ≤ hi := by
  unfold clamp mnI mxI; split <;> split <;> omega
def sideAt (N : List ND) (u : Nat) : Int := match N[u]? with | some x => x.side | none => 0
def climb (side : Int) (N : List ND) (a : Nat) : Nat × Int :=
  match idx (isAbove a) N with
  | .ofNat u => if u < a then (if sideAt N u ≠ side then climb side N u else (a, (u : Int))) else (a, (u : Int))
  | .negSucc _ => (a, -1)
def shareL (side by' : Int) (a : Nat) (N : List ND) : Int × List ND := match climb side N a with
  | (a, .ofNat u) => match N[u]? with
    | some x => (0, N.set u { x with sh := clamp 1 99 (if x.f = (a : Int) then x.sh + by' else x.sh - by') })
    | none => (9, N)
  | (_, .negSucc _) => (9, N)
def shareN (p : PA) (side by' : Int) (N : List ND) : Int × List ND :=
  if idx (isLeaf p) N < 0 then (4, N)
  else if ¬ (side = 1 ∨ side = 2) then (1, N)
  else shareL side (clamp (-99) 99 by') (N.findIdx (isLeaf p)) N
theorem climb_none {side : Int} {N : List ND} {a : Nat} (h : idx (isAbove a) N = -1) : climb side N a = (a, -1) := by
  rw [climb, h]; rfl
theorem climb_stop {side : Int} {N : List ND} {a u : Nat} (h : idx (isAbove a) N = (u : Int)) (hs : sideAt N u = side) : climb side N a = (a, (u : Int)) := by
  rw [climb, h]
  show (if u < a then (if sideAt N u ≠ side then climb side N u else (a, (u : Int))) else (a, (u : Int))) = _
  rw [if_neg (c := sideAt N u ≠ side) (by simpa using hs)]; simp
theorem climb_step {side : Int} {N : List ND} {a u : Nat} (h : idx (isAbove a) N = (u : Int)) (hu : u < a) (hs : sideAt N u ≠ side) : climb side N a = climb side N u := by
  rw [climb, h]
  show (if u < a then (if sideAt N u ≠ side then climb side N u else (a, (u : Int))) else (a, (u : Int))) = _
  rw [if_pos hu, if_pos hs]
set_option maxHeartbeats 4000000 in
theorem share_ok {H : AH} {t j : Nat} {cp : Cap} {N : List ND} (h : TreM H t j cp N) (hb : bnd N) (hup : ∀ a : Nat, N.findIdx (isAbove a) < N.length → N.findIdx (isAbove a) < a) (p : PA) (side by' : Int) :
    ACalls Try.prog R 30 [.ptr (.mu t) 0, p.av, .int .i64 side, .int .i64 by'] H (ActOut H t j (shareN p side by' N)) := by
  have hle := h.le
  refine ACalls.of_wpE Fns.ok30 (by simp [Fns.a30]) ?_
  obtain ⟨H1, hH1⟩ : ∃ H1, H1 = H ++ [AO.cells p.cells 32] := ⟨_, rfl⟩
  have hp : H1[H.length]? = some (.cells p.cells 32) := by rw [hH1]; simp
  have hT : TreM H1 t j cp N := by rw [hH1]; exact h.app _
  have hl1 : H1.length = H.length + 1 := by rw [hH1]; simp
  have hk1 : ∀ m, m < H.length → H1[m]? = H[m]? := fun m hm => by rw [hH1]; exact List.getElem?_append_left hm
  have same : ∀ c, shareN p side by' N = (c, N) → ActOut H t j (shareN p side by' N) (.int .i64 c) H1 :=
    fun c hc => by rw [hc]; exact ⟨rfl, by omega, fun m hm _ _ => hk1 m hm, j, cp, hT, .inl rfl⟩
  have hlf := leaf_ok (R := R) hT.tre p
  have hab := fun i => above_ok (R := R) hT.tre i
  have gt := hT.ht
  simp only [PA.av, PA.cells] at hlf hp hH1
  simp [Fns.a30, PA.av, PA.cells]
  rw [← hH1]
  refine hlf.mono ?_
  rintro v G ⟨rfl, rfl⟩
  simp [eqEv]
  rcases idx_cases (isLeaf p) N with ⟨e, hno⟩ | ⟨hlt, e⟩
  · simp [e]
    exact same 4 (by unfold shareN; rw [if_pos (by omega)])
  have e0 : ¬ ((N.findIdx (isLeaf p) : Int) < 0) := by omega
  by_cases hs : ¬ (side = 1 ∨ side = 2)
  · have c1 : ¬ side = 1 := by omega
    have c2 : ¬ side = 2 := by omega
    simp [e, e0, c1, c2]
    exact same 1 (by unfold shareN; rw [if_neg (by omega), if_pos hs])
  have s0 : shareN p side by' N = shareL side (clamp (-99) 99 by') (N.findIdx (isLeaf p)) N := by
    unfold shareN; rw [if_neg (by omega), if_neg (by omega)]
  rw [s0] at same ⊢
  have hcl := clamp_le (show (-99 : Int) ≤ 99 by omega) by'
  have hcd : mnI (mxI by' (-99)) 99 = clamp (-99) 99 by' := rfl
  generalize hcb : clamp (-99) 99 by' = b' at *
  obtain ⟨a0, ha0⟩ : ∃ a0, a0 = N.findIdx (isLeaf p) := ⟨_, rfl⟩
  rw [← ha0] at same hlt e e0 ⊢
  have hco : side = 1 ∨ (¬ side = 1 ∧ side = 2) := by omega
  have hsd : (decide (side = 1) = true) ∨ (decide (side = 1) = false ∧ decide (side = 2) = true) := by
    rcases hco with h | ⟨h1, h2⟩
    · exact .inl (by simpa using h)
    · exact .inr ⟨by simpa using h1, by simpa using h2⟩
  clear hs s0 hco
  rcases hsd with d1 | ⟨d1, d2⟩
  all_goals
    simp [e, e0, fold_mxI, fold_mnI, hcd, d1]
    try simp [e, e0, fold_mxI, fold_mnI, hcd, d2]
    refine (hab a0).mono ?_
    rintro v G1 ⟨rfl, rfl⟩
    simp
    refine AWp.loop (fun e G => G = G1 ∧ e 0 = .ptr (.mu t) 0 ∧ e 2 = .int .i64 side ∧ e 3 = .int .i64 b' ∧ ∃ a : Nat, e 9 = .int .i64 a ∧ e 10 = .int .i64 (idx (isAbove a) N) ∧ a < N.length ∧ climb side N a = climb side N a0) (fun e _ => match e 9 with | .int _ i => i.toNat | _ => 0)
      ⟨rfl, by simp, by simp, by simp, a0, by simp [e], by simp, hlt, rfl⟩ ?_
    rintro e1 G ⟨rfl, h0, h2, h3, a, h9, h10, hal, hcm⟩
    refine wpE_sound _ ?_
    have hfin : ∀ (c : Int) (L : List ND) (G' : AH), shareL side b' a0 N = (c, L) → G'.length = G.length → (∀ m, m ≠ j → G'[m]? = G[m]?) → TreM G' t j cp L → ActOut H t j (shareL side b' a0 N) (.int .i64 c) G' :=
      fun c L G' hc hl hk hTT => by rw [hc]; exact ⟨rfl, by omega, fun m hm hmt hmj => by rw [hk m hmj, hk1 m hm], j, cp, hTT, .inl rfl⟩
    rcases idx_cases (isAbove a) N with ⟨ea, hno⟩ | ⟨hul, ea⟩
    · have hst := climb_none (side := side) ea
      have hr : shareL side b' a0 N = (9, N) := by unfold shareL; rw [← hcm, hst]; rfl
      simp [h10, ea]
      exact hfin 9 N G hr rfl (fun _ _ => rfl) hT
    · have hua := hup a hul
      obtain ⟨u, hu⟩ : ∃ u, u = N.findIdx (isAbove a) := ⟨_, rfl⟩
      rw [← hu] at hul ea hua
      obtain ⟨x, hx⟩ : ∃ x, N[u]? = some x := ⟨_, List.getElem?_eq_getElem hul⟩
      have hsx : sideAt N u = x.side := by unfold sideAt; rw [hx]
      have gr := hT.hr
      have q0 := ndV_get hx 0 (by omega)
      have q1 := ndV_get hx 1 (by omega)
      have q3 := ndV_get hx 3 (by omega)
      simp [ND.cells] at q0 q1 q3
      have hul' : (u : Int) < N.length := by omega
      have hun : ¬ (u : Int) < 0 := by omega
      by_cases hxs : x.side = side
      · have hst := climb_stop (side := side) ea (by rw [hsx]; exact hxs)
        have hr : shareL side b' a0 N = (0, N.set u { x with sh := clamp 1 99 (if x.f = (a : Int) then x.sh + b' else x.sh - b') }) := by
          unfold shareL; rw [← hcm, hst]; simp only [Int.ofNat_eq_natCast]; rw [hx]
        obtain ⟨_, _, _, _, b5, b6⟩ := hb x (List.mem_of_getElem? hx)
        by_cases hf : x.f = (a : Int)
        · rw [if_pos hf] at hr
          have ws : IntKind.i64.wrap (x.sh + b') = x.sh + b' := by simp only [IntKind.wrap, IntKind.bits, IntKind.signed]; simp; omega
          obtain ⟨G1, w1, T1, k1, l1⟩ := hT.write (k := 3) (vs := [.int .i64 (clamp 1 99 (x.sh + b'))]) (x' := { x with sh := clamp 1 99 (x.sh + b') }) hx (by simp) rfl rfl
          have hcd2 : mnI (mxI (x.sh + b') 1) 99 = clamp 1 99 (x.sh + b') := rfl
          simp [h0, h2, h3, h9, h10, ea, hun, gt, gr, hul, hul', q0, q1, q3, hxs, hf, ws, fold_mxI, fold_mnI, hcd2, AO.content]
          rw [w1]
          simp
          exact hfin 0 _ G1 hr l1 k1 T1
        · rw [if_neg hf] at hr
          have ws : IntKind.i64.wrap (x.sh - b') = x.sh - b' := by simp only [IntKind.wrap, IntKind.bits, IntKind.signed]; simp; omega
          obtain ⟨G1, w1, T1, k1, l1⟩ := hT.write (k := 3) (vs := [.int .i64 (clamp 1 99 (x.sh - b'))]) (x' := { x with sh := clamp 1 99 (x.sh - b') }) hx (by simp) rfl rfl
          have hcd2 : mnI (mxI (x.sh - b') 1) 99 = clamp 1 99 (x.sh - b') := rfl
          simp [h0, h2, h3, h9, h10, ea, hun, gt, gr, hul, hul', q0, q1, q3, hxs, hf, ws, fold_mxI, fold_mnI, hcd2, AO.content]
          rw [w1]
          simp
          exact hfin 0 _ G1 hr l1 k1 T1
      · have hst := climb_step (side := side) ea hua (by rw [hsx]; exact hxs)
        simp [h0, h2, h3, h9, h10, ea, hun, gt, gr, hul, hul', q0, hxs, AO.content]
        refine (hab u).mono ?_
        rintro v G1 ⟨rfl, rfl⟩
        simp [h0, h2, h3, h9, h10, ea]
        exact ⟨⟨u, rfl, rfl, hul, by rw [← hst]; exact hcm⟩, hua⟩
end Go.Proofs.Ytbcfhiohdamcjaa.Tr
