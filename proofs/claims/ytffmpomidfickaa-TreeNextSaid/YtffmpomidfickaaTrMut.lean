/- A tree that may be written: its nodes' numbers moved. -/
import Derived.Test.YtffmpomidfickaaTrLeaf
namespace Go.Proofs.Ytffmpomidfickaa.Tr
open Go Go.RowKit Am
set_option maxRecDepth 100000
set_option linter.unusedSimpArgs false
set_option linter.unusedVariables false
attribute [-simp] Am.binEv Am.intBin Am.read1
attribute [local simp] binEv_lss binEv_leq binEv_gtr binEv_geq binEv_eql binEv_neq binEv_add binEv_sub binEv_mul read1_ro read1_mu
variable {R : Ro}
/-- The nodes' own block. -/
def TObj (cp : Cap) (N : List ND) (o : AO) : Prop := (cp = .opn 0 ∧ o = .row (ndV N) 54 7) ∨ (cp = .known 1 ∧ N.length = 1 ∧ o = .cells (ndV N) 54)
structure TreM (H : AH) (t j : Nat) (cp : Cap) (N : List ND) : Prop where
  ht : H[t]? = some (.cells [.slice (.mu j) 0 N.length cp] 60)
  obj : ∃ o, H[j]? = some o ∧ TObj cp N o
  pos : 0 < N.length
  le : N.length ≤ 1000
theorem TObj.content {cp : Cap} {N : List ND} {o : AO} (h : TObj cp N o) : o.content = some (ndV N) := by
  rcases h with ⟨_, rfl⟩ | ⟨_, _, rfl⟩ <;> rfl
theorem TObj.with {cp : Cap} {N M : List ND} {o : AO} (h : TObj cp N o) (hl : M.length = N.length) : TObj cp M (o.withContent (ndV M)) := by
  rcases h with ⟨h, rfl⟩ | ⟨h, h2, rfl⟩
  · exact .inl ⟨h, rfl⟩
  · exact .inr ⟨h, by omega, rfl⟩
theorem TreM.tre {H : AH} {t j : Nat} {cp : Cap} {N : List ND} (h : TreM H t j cp N) : Tre H t j N.length cp (ndV N) N := by
  obtain ⟨o, ho, hc⟩ := h.obj
  exact ⟨h.ht, by rw [ho]; exact hc.content, List.take_of_length_le (by rw [ndV_len]; omega), rfl, h.pos, h.le⟩
theorem TreM.hr {H : AH} {t j : Nat} {cp : Cap} {N : List ND} (h : TreM H t j cp N) : (H[j]?).bind AO.content = some (ndV N) := h.tre.hj
theorem TreM.jt {H : AH} {t j : Nat} {cp : Cap} {N : List ND} (h : TreM H t j cp N) : j ≠ t := by
  rintro rfl
  obtain ⟨o, ho, hc⟩ := h.obj
  rw [h.ht] at ho
  cases ho
  rcases hc with ⟨_, e⟩ | ⟨_, _, e⟩ <;> simp at e
theorem TreM.jlt {H : AH} {t j : Nat} {cp : Cap} {N : List ND} (h : TreM H t j cp N) : j < H.length := by
  obtain ⟨o, ho, hc⟩ := h.obj
  exact (List.getElem?_eq_some_iff.1 ho).1
theorem TreM.tlt {H : AH} {t j : Nat} {cp : Cap} {N : List ND} (h : TreM H t j cp N) : t < H.length := (List.getElem?_eq_some_iff.1 h.ht).1
theorem TreM.app {H : AH} {t j : Nat} {cp : Cap} {N : List ND} (h : TreM H t j cp N) (X : AH) : TreM (H ++ X) t j cp N := by
  obtain ⟨o, ho, hc⟩ := h.obj
  exact ⟨get_app h.ht, ⟨o, get_app ho, hc⟩, h.pos, h.le⟩
theorem TreM.frame {H G : AH} {t j : Nat} {cp : Cap} {N : List ND} (h : TreM H t j cp N) (ht : G[t]? = H[t]?) (hj : G[j]? = H[j]?) : TreM G t j cp N := by
  obtain ⟨o, ho, hc⟩ := h.obj
  exact ⟨ht.trans h.ht, ⟨o, hj.trans ho, hc⟩, h.pos, h.le⟩
theorem ndV_get {N : List ND} {i : Nat} {x : ND} (h : N[i]? = some x) (k : Nat) (hk : k < 7) : (ndV N)[i * 7 + k]? = x.cells[k]? := by
  have := ndV_at N i x h
  rw [← this, List.getElem?_take, if_pos hk, List.getElem?_drop]
theorem ndV_set : ∀ (N : List ND) (i : Nat) (x x' : ND) (k : Nat) (vs : List AV), N[i]? = some x → k + vs.length ≤ 7 → splice x.cells k vs = x'.cells → splice (ndV N) (i * 7 + k) vs = ndV (N.set i x')
  | [], i, x, x', k, vs, h, _, _ => by simp at h
  | y :: N, 0, x, x', k, vs, h, hk, hs => by
    simp at h; subst h
    have hl : y.cells.length = 7 := rfl
    simp only [ndV, List.set_cons_zero, Nat.zero_mul, Nat.zero_add, splice] at hs ⊢
    rw [← hs, List.take_append_of_le_length (by omega), List.drop_append_of_le_length (by omega)]
    simp
  | y :: N, i + 1, x, x', k, vs, h, hk, hs => by
    have ih := ndV_set N i x x' k vs (by simpa using h) hk hs
    have hl : y.cells.length = 7 := rfl
    simp only [ndV, List.set_cons_succ]
    rw [← ih]
    have e1 : (i + 1) * 7 + k = y.cells.length + (i * 7 + k) := by omega
    unfold splice
    rw [e1, List.take_length_add_append, Nat.add_assoc, List.drop_length_add_append]
    simp
/-- Cells of one node written. -/
theorem TreM.write {H : AH} {t j : Nat} {cp : Cap} {N : List ND} (h : TreM H t j cp N) {i k : Nat} {x x' : ND} {vs : List AV} (hx : N[i]? = some x) (hk : k + vs.length ≤ 7) (ho : vs.all AV.oneCell = true) (hs : splice x.cells k vs = x'.cells) :
    ∃ G, writeN H j (i * 7 + k) vs = some G ∧ TreM G t j cp (N.set i x') ∧ (∀ m, m ≠ j → G[m]? = H[m]?) ∧ G.length = H.length := by
  obtain ⟨o, hj, hc⟩ := h.obj
  have hil := (List.getElem?_eq_some_iff.1 hx).1
  have hfit : i * 7 + k + vs.length ≤ (ndV N).length := by rw [ndV_len]; omega
  refine ⟨H.set j (o.withContent (ndV (N.set i x'))), ?_, ?_, fun m hm => by rw [List.getElem?_set_ne (Ne.symm hm)], by simp⟩
  · unfold writeN
    rw [hj]
    simp only [hc.content]
    rw [if_pos ⟨hfit, ho⟩, ndV_set N i x x' k vs hx hk hs]
  · refine ⟨?_, ⟨_, List.getElem?_set_self h.jlt, hc.with (by simp)⟩, by simpa using h.pos, by simpa using h.le⟩
    rw [List.getElem?_set_ne h.jt, List.length_set]; exact h.ht
/-- Numbers of nodes from a place on, moved. -/
def mvZ (a b z : Int) : Int := if a ≤ z then z + b else z
def mvN (a b : Int) (x : ND) : ND := if x.side = 0 then x else { x with f := mvZ a b x.f, s := mvZ a b x.s }
def bnd (N : List ND) : Prop := ∀ x ∈ N, 0 ≤ x.f ∧ x.f ≤ 100000 ∧ 0 ≤ x.s ∧ x.s ≤ 100000 ∧ 0 ≤ x.sh ∧ x.sh ≤ 99
theorem moves_ok {H : AH} {t j : Nat} {cp : Cap} {N : List ND} (h : TreM H t j cp N) (hb : bnd N) (a b : Int) (hb1 : -10 ≤ b) (hb2 : b ≤ 10) :
    ACalls Try.prog R 30 [.ptr (.mu t) 0, .int .i64 a, .int .i64 b] H fun v G => v = .tuple [] ∧ TreM G t j cp (N.map (mvN a b)) ∧ (∀ m, m ≠ j → G[m]? = H[m]?) ∧ G.length = H.length := by
  have hle := h.le
  refine ACalls.of_wpE Fns.ok30 (by simp [Fns.a30]) ?_
  simp [Fns.a30, h.ht, AO.content]
  refine AWp.loop (fun e G => e 0 = .ptr (.mu t) 0 ∧ e 1 = .int .i64 a ∧ e 2 = .int .i64 b ∧ e 12 = .int .i64 N.length ∧ ∃ i : Nat, e 13 = .int .i64 i ∧ i ≤ N.length ∧ TreM G t j cp ((N.take i).map (mvN a b) ++ N.drop i) ∧ (∀ m, m ≠ j → G[m]? = H[m]?) ∧ G.length = H.length) (fun e _ => match e 13 with | .int _ i => ((N.length : Int) - i).toNat | _ => 0)
    ⟨by simp, by simp, by simp, by simp, 0, by simp, by omega, by simpa using h, fun _ _ => rfl, rfl⟩ ?_
  rintro e G ⟨h0, h1, h2, h12, i, h13, hi, hT, hold, hgl⟩
  refine wpE_sound _ ?_
  by_cases hlt : i < N.length
  · have hlt' : (i : Int) < (N.length : Int) := by omega
    have hw1 : IntKind.i64.wrap ((i : Int) + 1) = (i : Int) + 1 := by rw [wrap_nat] <;> omega
    obtain ⟨x, hx⟩ : ∃ x, N[i]? = some x := ⟨_, List.getElem?_eq_getElem hlt⟩
    obtain ⟨b1, b2, b3, b4, _, _⟩ := hb x (List.mem_of_getElem? hx)
    have htl : ((N.take i).map (mvN a b)).length = i := by simp; omega
    have hll : ((N.take i).map (mvN a b) ++ N.drop i).length = N.length := by simp; omega
    have hx1 : ((N.take i).map (mvN a b) ++ N.drop i)[i]? = some x := by
      rw [List.getElem?_append_right (by omega), htl, List.getElem?_drop]; simpa using hx
    have hnext : ∀ y, y = mvN a b x → ((N.take i).map (mvN a b) ++ N.drop i).set i y = (N.take (i + 1)).map (mvN a b) ++ N.drop (i + 1) := fun y hy => by
      rw [List.set_append, if_neg (by omega), htl, Nat.sub_self, List.take_add_one, hx, Option.toList_some, List.map_append, List.append_assoc]
      have : N.drop i = x :: N.drop (i + 1) := by
        rw [List.drop_eq_getElem_cons hlt]; congr 1
        rw [List.getElem?_eq_getElem hlt] at hx; exact Option.some.inj hx
      rw [this, hy]; simp
    generalize (N.take i).map (mvN a b) ++ N.drop i = M at hT hll hx1 hnext
    have gt := hT.ht
    rw [hll] at gt
    have gr := hT.hr
    have c0 := ndV_get hx1 0 (by omega)
    have c1 := ndV_get hx1 1 (by omega)
    have c2 := ndV_get hx1 2 (by omega)
    simp [ND.cells] at c0 c1 c2
    have f1 : IntKind.i64.wrap (x.f + b) = x.f + b := by simp only [IntKind.wrap, IntKind.bits, IntKind.signed]; simp; omega
    have f2 : IntKind.i64.wrap (x.s + b) = x.s + b := by simp only [IntKind.wrap, IntKind.bits, IntKind.signed]; simp; omega
    by_cases hs : x.side = 0
    · have hy := hnext x (by unfold mvN; rw [if_pos hs])
      have hself : M.set i x = M := by
        obtain ⟨hl, rfl⟩ := List.getElem?_eq_some_iff.1 hx1
        exact List.set_getElem_self hl
      rw [hself] at hy
      rw [hy] at hT
      simp [h0, h1, h2, h12, h13, hlt, hlt', gt, gr, c0, hs, hw1, AO.content]
      exact ⟨⟨i + 1, by simp, by omega, by simpa using hT, hold, hgl⟩, by omega⟩
    · have mv : mvN a b x = { x with f := mvZ a b x.f, s := mvZ a b x.s } := by unfold mvN; rw [if_neg hs]
      by_cases hf : a ≤ x.f
      · obtain ⟨G1, w1, T1, k1, l1⟩ := hT.write (k := 1) (vs := [.int .i64 (x.f + b)]) (x' := { x with f := x.f + b }) hx1 (by simp) rfl rfl
        have hl1 : (M.set i { x with f := x.f + b }).length = N.length := by simp [hll]
        have gt1 := T1.ht
        rw [hl1] at gt1
        have gr1 := T1.hr
        have hx2 : (M.set i { x with f := x.f + b })[i]? = some { x with f := x.f + b } := List.getElem?_set_self (by omega)
        have d2 := ndV_get hx2 2 (by omega)
        simp [ND.cells] at d2
        by_cases hss : a ≤ x.s
        · obtain ⟨G2, w2, T2, k2, l2⟩ := T1.write (k := 2) (vs := [.int .i64 (x.s + b)]) (x' := { x with f := x.f + b, s := x.s + b }) hx2 (by simp) rfl rfl
          rw [List.set_set, hnext _ (by rw [mv]; simp [mvZ, hf, hss])] at T2
          simp [h0, h1, h2, h12, h13, hlt, hlt', gt, gr, c0, c1, c2, hs, hw1, AO.content, hf, f1, w1, gt1, gr1, d2, hss, f2, w2]
          exact ⟨⟨i + 1, by simp, by omega, by simpa using T2, fun m hm => by rw [k2 m hm, k1 m hm, hold m hm], by omega⟩, by omega⟩
        · rw [hnext _ (by rw [mv]; simp [mvZ, hf, hss])] at T1
          simp [h0, h1, h2, h12, h13, hlt, hlt', gt, gr, c0, c1, c2, hs, hw1, AO.content, hf, f1, w1, gt1, gr1, d2, hss]
          exact ⟨⟨i + 1, by simp, by omega, by simpa using T1, fun m hm => by rw [k1 m hm, hold m hm], by omega⟩, by omega⟩
      · by_cases hss : a ≤ x.s
        · obtain ⟨G2, w2, T2, k2, l2⟩ := hT.write (k := 2) (vs := [.int .i64 (x.s + b)]) (x' := { x with s := x.s + b }) hx1 (by simp) rfl rfl
          rw [hnext _ (by rw [mv]; simp [mvZ, hf, hss])] at T2
          simp [h0, h1, h2, h12, h13, hlt, hlt', gt, gr, c0, c1, c2, hs, hw1, AO.content, hf, hss, f2, w2]
          exact ⟨⟨i + 1, by simp, by omega, by simpa using T2, fun m hm => by rw [k2 m hm, hold m hm], by omega⟩, by omega⟩
        · have hself : M.set i x = M := by
            obtain ⟨hl, rfl⟩ := List.getElem?_eq_some_iff.1 hx1
            exact List.set_getElem_self hl
          have hy := hnext x (by rw [mv]; simp [mvZ, hf, hss])
          rw [hself] at hy
          rw [hy] at hT
          simp [h0, h1, h2, h12, h13, hlt, hlt', gt, gr, c0, c1, c2, hs, hw1, AO.content, hf, hss]
          exact ⟨⟨i + 1, by simp, by omega, by simpa using hT, hold, hgl⟩, by omega⟩
  · obtain rfl : i = N.length := by omega
    rw [List.take_length, List.drop_length, List.append_nil] at hT
    simp [h12, h13]
    exact ⟨hT, hold, hgl⟩
end Go.Proofs.Ytffmpomidfickaa.Tr
