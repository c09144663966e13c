/- A tree that is being laid: the places and borders so far; what a tree comes to. -/
import Derived.Test.YtbcfhiohdamcjaaGeCut
import Derived.Test.YtbcfhiohdamcjaaTrPure4
import Derived.Test.YtbcfhiohdamcjaaAmInsC
import Derived.Test.YtbcfhiohdamcjaaAmFlat
namespace Go.Proofs.Ytbcfhiohdamcjaa.Ge
open Go Go.RowKit Am Tr
set_option maxRecDepth 100000
set_option linter.unusedSimpArgs false
set_option linter.unusedVariables false
variable {R : Ro}
open PT
/-- A rectangle without a column. -/
def RE.bare (z : RE) : RE := ⟨z.x, z.y, 0, 0⟩
def bigB (z : RE) (s sh : Int) : RE := if z.empty || parts1 s z then z.bare else partsB s sh z
def bigA (z : RE) (s sh : Int) : RE := if z.empty then z.bare else partsA s sh z
def ownL (z : RE) (s sh : Int) : List RE := if z.empty || parts1 s z then [] else [partsL s sh z]
def layP : PT → RE → List (PA × RE)
  | .leaf p, z => [(p, if z.empty then z.bare else z)]
  | .split s sh a b, z => layP a (bigA z s sh) ++ layP b (bigB z s sh)
def layB : PT → RE → List RE
  | .leaf p, z => []
  | .split s sh a b, z => ownL z s sh ++ (layB a (bigA z s sh) ++ layB b (bigB z s sh))
theorem layP_len : ∀ (P : PT) (z : RE), (layP P z).length = P.panes.length
  | .leaf p, z => rfl
  | .split s sh a b, z => by simp [layP, PT.panes, layP_len]
theorem layB_len : ∀ (P : PT) (z : RE), (layB P z).length + 1 ≤ P.panes.length
  | .leaf p, z => by simp [layB, PT.panes]
  | .split s sh a b, z => by
    have h1 := layB_len a (bigA z s sh)
    have h2 := layB_len b (bigB z s sh)
    have h3 : (ownL z s sh).length ≤ 1 := by unfold ownL; split <;> simp
    simp only [layB, PT.panes, List.length_append]; omega
/-- What may be cut. -/
def ZOk (z : RE) : Prop := 0 ≤ z.x ∧ 0 ≤ z.y ∧ 0 ≤ z.w ∧ 0 ≤ z.h ∧ z.w ≤ 400 ∧ z.h ≤ 400 ∧ z.x + z.w ≤ 1000 ∧ z.y + z.h ≤ 1000
theorem ZOk.bare {z : RE} (h : ZOk z) : ZOk z.bare := by
  obtain ⟨h1, h2, h3, h4, h5, h6, h7, h8⟩ := h
  unfold ZOk RE.bare
  dsimp only
  omega
theorem ZOk.a {z : RE} (h : ZOk z) (s : Int) {sh : Int} (h1 : 1 ≤ sh) : ZOk (partsA s sh z) := by
  obtain ⟨q1, q2, q3, q4, q5, q6, q7, q8⟩ := h
  have c1 := cut_le (sh := sh) q3 h1
  have c2 := cut_le (sh := sh) q4 h1
  have s1 := cut_sum z.w sh
  have s2 := cut_sum z.h sh
  unfold ZOk partsA
  split <;> dsimp only <;> omega
theorem ZOk.b {z : RE} (h : ZOk z) (s : Int) {sh : Int} (h1 : 1 ≤ sh) : ZOk (partsB s sh z) := by
  obtain ⟨q1, q2, q3, q4, q5, q6, q7, q8⟩ := h
  have c1 := cut_le (sh := sh) q3 h1
  have c2 := cut_le (sh := sh) q4 h1
  have s1 := cut_sum z.w sh
  have s2 := cut_sum z.h sh
  unfold ZOk partsB
  split <;> dsimp only <;> omega
theorem ZOk.bigA {z : RE} (h : ZOk z) (s : Int) {sh : Int} (h1 : 1 ≤ sh) : ZOk (bigA z s sh) := by
  unfold Ge.bigA; split
  · exact h.bare
  · exact h.a s h1
theorem ZOk.bigB {z : RE} (h : ZOk z) (s : Int) {sh : Int} (h1 : 1 ≤ sh) : ZOk (bigB z s sh) := by
  unfold Ge.bigB; split
  · exact h.bare
  · exact h.b s h1
/-- A part of the nodes told. -/
def Sub (N : List ND) (o : Nat) (P : PT) : Prop := ∀ i, i < P.size → N[o + i]? = (tell o P)[i]?
theorem sub_all (P : PT) : Sub (tell 0 P) 0 P := fun i _ => by rw [Nat.zero_add]
theorem Sub.leaf {N : List ND} {o : Nat} {p : PA} (h : Sub N o (.leaf p)) : N[o]? = some (leafN p) := h 0 (by simp [PT.size])
theorem Sub.split {N : List ND} {o : Nat} {s sh : Int} {a b : PT} (h : Sub N o (.split s sh a b)) : N[o]? = some ⟨s, (o : Int) + 1, (o : Int) + 1 + a.size, sh, 0, 0, 0⟩ ∧ Sub N (o + 1) a ∧ Sub N (o + 1 + a.size) b := by
  refine ⟨h 0 (by simp [PT.size]; omega), fun i hi => ?_, fun i hi => ?_⟩
  · have := h (1 + i) (by simp [PT.size]; omega)
    rw [show o + 1 + i = o + (1 + i) by omega, this]
    simp only [tell]
    rw [Nat.add_comm 1 i, List.getElem?_cons_succ, List.getElem?_append_left (by rw [tell_len]; exact hi)]
  · have := h (1 + a.size + i) (by simp [PT.size]; omega)
    rw [show o + 1 + a.size + i = o + (1 + a.size + i) by omega, this]
    simp only [tell]
    rw [show 1 + a.size + i = (a.size + i) + 1 by omega, List.getElem?_cons_succ, List.getElem?_append_right (by rw [tell_len]; omega), tell_len]
    congr 1; omega
def plV : List (PA × RE) → List AV
  | [] => []
  | x :: l => x.1.cells ++ x.2.cells ++ plV l
def rcV : List RE → List AV
  | [] => []
  | z :: l => z.cells ++ rcV l
theorem plV_len : ∀ l, (plV l).length = l.length * 7
  | [] => rfl
  | x :: l => by simp [plV, PA.cells, RE.cells, plV_len l]; omega
theorem rcV_len : ∀ l, (rcV l).length = l.length * 4
  | [] => rfl
  | x :: l => by simp [rcV, RE.cells, rcV_len l]; omega
theorem plV_app : ∀ A B, plV (A ++ B) = plV A ++ plV B
  | [], B => rfl
  | x :: A, B => by simp [plV, plV_app A B]
theorem rcV_app : ∀ A B, rcV (A ++ B) = rcV A ++ rcV B
  | [], B => rfl
  | x :: A, B => by simp [rcV, rcV_app A B]
theorem plV_at : ∀ (l : List (PA × RE)) (i : Nat) (x : PA × RE), l[i]? = some x → ((plV l).drop (i * 7 + 3)).take 4 = x.2.cells
  | [], i, x, h => by simp at h
  | y :: l, 0, x, h => by simp at h; subst h; simp [plV, PA.cells, RE.cells]
  | y :: l, i + 1, x, h => by
    have := plV_at l i x (by simpa using h)
    have e1 : (i + 1) * 7 + 3 = 7 + (i * 7 + 3) := by omega
    rw [e1, ← List.drop_drop]
    simpa [plV, PA.cells, RE.cells] using this
theorem rcV_at : ∀ (l : List RE) (i : Nat) (x : RE), l[i]? = some x → ((rcV l).drop (i * 4)).take 4 = x.cells
  | [], i, x, h => by simp at h
  | y :: l, 0, x, h => by simp at h; subst h; simp [rcV, RE.cells]
  | y :: l, i + 1, x, h => by
    have := rcV_at l i x (by simpa using h)
    have e1 : (i + 1) * 4 = 4 + i * 4 := by omega
    rw [e1, ← List.drop_drop]
    simpa [rcV, RE.cells] using this
/-- A row that grows from none. -/
def Rw (ty sz : Nat) (G : AH) (v : AV) (C : List AV) (n : Nat) : Prop := C.length = n * sz ∧ ((n = 0 ∧ v = .nilslice) ∨ (0 < n ∧ ∃ r, v = .slice (.mu r) 0 n (.opn 0) ∧ G[r]? = some (.row C ty sz)))
theorem Rw.app {ty sz by' : Nat} {G : AH} {v : AV} {C V : List AV} {n jv : Nat} {tV : TypeId} {cv : Cap} (h : Rw ty sz G v C n) (hV : G[jv]? = some (.cells V tV)) (hVl : V.length = sz) (hVo : V.all AV.oneCell = true) (hsz : sz ≠ 0) (hby : by' ≠ 0) (hfit : (n + 1) * by' ≤ 140737488355328) :
    ∃ v' G', appendEv R G ty sz by' v (.slice (.mu jv) 0 1 cv) = some (v', G') ∧ Rw ty sz G' v' (C ++ V) (n + 1) ∧ G.length ≤ G'.length ∧ ∀ (m : Nat) (o : AO), G[m]? = some o → (∀ C' : List AV, o ≠ .row C' ty sz) → G'[m]? = some o := by
  obtain ⟨hC, h⟩ := h
  have hCV : (C ++ V).length = (n + 1) * sz := by rw [List.length_append, hC, hVl, Nat.add_mul]; omega
  rcases h with ⟨rfl, rfl⟩ | ⟨hn, r, rfl, hr⟩
  · obtain rfl : C = [] := List.length_eq_zero_iff.1 (by omega)
    refine ⟨_, _, append_nil (R := R) (m := 1) hV (by omega) (by omega) hsz hby (by omega) hVo, ⟨hCV, .inr ⟨by omega, G.length, rfl, by simp⟩⟩, by simp, fun m o hm _ => ?_⟩
    exact get_app hm
  · refine ⟨_, _, append_opn (R := R) (m := 1) hr hC hV (by omega) (by omega) hsz hby hfit hVo, ⟨hCV, .inr ⟨by omega, G.length, rfl, by rw [List.getElem?_append_right (by simp)]; simp⟩⟩, by simp, fun m o hm hn => ?_⟩
    have hmr : r ≠ m := fun e => by subst e; rw [hr] at hm; cases hm; exact hn _ rfl
    rw [List.getElem?_append_left (by rw [List.length_set]; exact (List.getElem?_eq_some_iff.1 hm).1), List.getElem?_set_ne hmr]
    exact hm
theorem Rw.keep {ty sz : Nat} {G G' : AH} {v : AV} {C : List AV} {n : Nat} (h : Rw ty sz G v C n) (hk : ∀ r : Nat, G[r]? = some (.row C ty sz) → G'[r]? = some (.row C ty sz)) : Rw ty sz G' v C n := by
  obtain ⟨hC, h | ⟨hn, r, hv, hr⟩⟩ := h
  · exact ⟨hC, .inl h⟩
  · exact ⟨hC, .inr ⟨hn, r, hv, hk r hr⟩⟩
def notG (o : AO) : Prop := ∀ C : List AV, o ≠ .row C 36 7 ∧ o ≠ .row C 29 4
/-- What is not the lists' own stays. -/
def KL (L : Nat) (H G : AH) : Prop := H.length ≤ G.length ∧ ∀ (m : Nat) (o : AO), H[m]? = some o → m ≠ L → notG o → G[m]? = some o
theorem KL.refl (L : Nat) (H : AH) : KL L H H := ⟨Nat.le_refl _, fun _ _ h _ _ => h⟩
theorem KL.trans {L : Nat} {H G F : AH} (h : KL L H G) (k : KL L G F) : KL L H F := ⟨Nat.le_trans h.1 k.1, fun m o hm hL hn => k.2 m o (h.2 m o hm hL hn) hL hn⟩
theorem KL.app (L : Nat) (H X : AH) : KL L H (H ++ X) := ⟨by simp, fun m o hm _ _ => get_app hm⟩
theorem KL.cell {L : Nat} {H G : AH} (h : KL L H G) {m : Nat} {c : List AV} {ty : TypeId} (hm : H[m]? = some (.cells c ty)) (hL : m ≠ L) : G[m]? = some (.cells c ty) := h.2 m _ hm hL fun C => ⟨by simp, by simp⟩
theorem TreM.kl {H G : AH} {t j L : Nat} {cp : Cap} {N : List ND} {c : List AV} (h : TreM H t j cp N) (hL : H[L]? = some (.cells c 50)) (k : KL L H G) : TreM G t j cp N := by
  have ht : t ≠ L := fun e => by subst e; rw [h.ht] at hL; cases hL
  obtain ⟨o, ho, hc⟩ := h.obj
  have hj : j ≠ L := fun e => by
    subst e; rw [ho] at hL
    rcases hc with ⟨_, rfl⟩ | ⟨_, _, rfl⟩ <;> cases hL
  refine ⟨k.cell h.ht ht, ⟨o, k.2 j o ho hj ?_, hc⟩, h.pos, h.le⟩
  rcases hc with ⟨_, rfl⟩ | ⟨_, _, rfl⟩ <;> exact fun C => ⟨by simp, by simp⟩
structure LS (G : AH) (L t j : Nat) (cp : Cap) (N : List ND) (PL : List (PA × RE)) (BL : List RE) : Prop where
  tre : TreM G t j cp N
  cell : ∃ pv bv, G[L]? = some (.cells [.ptr (.mu t) 0, pv, bv] 50) ∧ Rw 36 7 G pv (plV PL) PL.length ∧ Rw 29 4 G bv (rcV BL) BL.length
theorem LS.app {G : AH} {L t j : Nat} {cp : Cap} {N : List ND} {PL : List (PA × RE)} {BL : List RE} (h : LS G L t j cp N PL BL) (X : AH) : LS (G ++ X) L t j cp N PL BL := by
  obtain ⟨h1, pv, bv, h2, h3, h4⟩ := h
  exact ⟨h1.app X, pv, bv, get_app h2, h3.keep fun r hr => get_app hr, h4.keep fun r hr => get_app hr⟩
/-- A cell of another kind may be written. -/
theorem LS.set {G : AH} {L t j m : Nat} {cp : Cap} {N : List ND} {PL : List (PA × RE)} {BL : List RE} {c : List AV} {ty : TypeId} {o : AO} (h : LS G L t j cp N PL BL) (hm : G[m]? = some (.cells c ty)) (h1 : ty ≠ 50) (h2 : ty ≠ 58) (h3 : ty ≠ 55) : LS (G.set m o) L t j cp N PL BL := by
  obtain ⟨t1, pv, bv, g2, g3, g4⟩ := h
  have ne : ∀ {k : Nat} {x : AO}, G[k]? = some x → x ≠ .cells c ty → (G.set m o)[k]? = some x := fun {k x} hk hx => by
    rw [List.getElem?_set_ne (fun e => by subst e; rw [hm] at hk; cases hk; exact hx rfl)]; exact hk
  refine ⟨?_, pv, bv, ne g2 (fun e => by cases e; exact h1 rfl), g3.keep fun r hr => ne hr (by simp), g4.keep fun r hr => ne hr (by simp)⟩
  obtain ⟨ob, ho, hc⟩ := t1.obj
  refine ⟨ne t1.ht (fun e => by cases e; exact h2 rfl), ⟨ob, ne ho ?_, hc⟩, t1.pos, t1.le⟩
  rcases hc with ⟨_, rfl⟩ | ⟨_, _, rfl⟩
  · simp
  · intro e; cases e; exact h3 rfl
end Go.Proofs.Ytbcfhiohdamcjaa.Ge
namespace Go.Proofs.Ytbcfhiohdamcjaa.Ge
open Go Go.RowKit Am Tr PT
variable {R : Ro}
theorem LS.hL {G : AH} {L t j : Nat} {cp : Cap} {N : List ND} {PL : List (PA × RE)} {BL : List RE} (h : LS G L t j cp N PL BL) {m : Nat} {c : List AV} {ty : TypeId} (hm : G[m]? = some (.cells c ty)) (hy : ty ≠ 50) : m ≠ L := by
  obtain ⟨pv, bv, g2, _⟩ := h.cell
  intro e; subst e; rw [g2] at hm; cases hm; exact hy rfl
theorem LS.place {F G : AH} {L t j : Nat} {cp : Cap} {N : List ND} {PL : List (PA × RE)} {BL : List RE} {pv bv v : AV} (h : TreM F t j cp N) (hL : F[L]? = some (.cells [.ptr (.mu t) 0, pv, bv] 50)) (hb : Rw 29 4 F bv (rcV BL) BL.length) {x : PA × RE} {V : List AV} (hV : V = x.1.cells ++ x.2.cells)
    (hr : Rw 36 7 G v (plV PL ++ V) (PL.length + 1)) (hl : F.length ≤ G.length) (hk : ∀ (m : Nat) (o : AO), F[m]? = some o → (∀ C' : List AV, o ≠ .row C' 36 7) → G[m]? = some o) :
    LS (G.set L (.cells [.ptr (.mu t) 0, v, bv] 50)) L t j cp N (PL ++ [x]) BL ∧ KL L F (G.set L (.cells [.ptr (.mu t) 0, v, bv] 50)) := by
  have hGL := hk L _ hL (by simp)
  have hlt := (List.getElem?_eq_some_iff.1 hGL).1
  have kl : KL L F (G.set L (.cells [.ptr (.mu t) 0, v, bv] 50)) := ⟨by simpa using hl, fun m o hm hmL hn => by
    rw [List.getElem?_set_ne (Ne.symm hmL)]; exact hk m o hm fun C => (hn C).1⟩
  have ne : ∀ {k : Nat} {C : List AV} {ty sz : Nat}, G[k]? = some (.row C ty sz) → (G.set L (.cells [.ptr (.mu t) 0, v, bv] 50))[k]? = some (.row C ty sz) := fun {k C ty sz} hk2 => by
    rw [List.getElem?_set_ne (fun e => by subst e; rw [hGL] at hk2; cases hk2)]; exact hk2
  refine ⟨⟨TreM.kl h hL kl, v, bv, List.getElem?_set_self hlt, ?_, hb.keep fun r hr2 => ne (hk r _ hr2 (by simp))⟩, kl⟩
  have e : plV (PL ++ [x]) = plV PL ++ V := by rw [plV_app, hV]; simp [plV]
  rw [e, List.length_append]
  exact hr.keep fun r hr2 => ne hr2
theorem LS.border {F G : AH} {L t j : Nat} {cp : Cap} {N : List ND} {PL : List (PA × RE)} {BL : List RE} {pv bv v : AV} (h : TreM F t j cp N) (hL : F[L]? = some (.cells [.ptr (.mu t) 0, pv, bv] 50)) (hp : Rw 36 7 F pv (plV PL) PL.length) {z : RE} {V : List AV} (hV : V = z.cells)
    (hr : Rw 29 4 G v (rcV BL ++ V) (BL.length + 1)) (hl : F.length ≤ G.length) (hk : ∀ (m : Nat) (o : AO), F[m]? = some o → (∀ C' : List AV, o ≠ .row C' 29 4) → G[m]? = some o) :
    LS (G.set L (.cells [.ptr (.mu t) 0, pv, v] 50)) L t j cp N PL (BL ++ [z]) ∧ KL L F (G.set L (.cells [.ptr (.mu t) 0, pv, v] 50)) := by
  have hGL := hk L _ hL (by simp)
  have hlt := (List.getElem?_eq_some_iff.1 hGL).1
  have kl : KL L F (G.set L (.cells [.ptr (.mu t) 0, pv, v] 50)) := ⟨by simpa using hl, fun m o hm hmL hn => by
    rw [List.getElem?_set_ne (Ne.symm hmL)]; exact hk m o hm fun C => (hn C).2⟩
  have ne : ∀ {k : Nat} {C : List AV} {ty sz : Nat}, G[k]? = some (.row C ty sz) → (G.set L (.cells [.ptr (.mu t) 0, pv, v] 50))[k]? = some (.row C ty sz) := fun {k C ty sz} hk2 => by
    rw [List.getElem?_set_ne (fun e => by subst e; rw [hGL] at hk2; cases hk2)]; exact hk2
  refine ⟨⟨TreM.kl h hL kl, pv, v, List.getElem?_set_self hlt, hp.keep fun r hr2 => ne (hk r _ hr2 (by simp)), ?_⟩, kl⟩
  have e : rcV (BL ++ [z]) = rcV BL ++ V := by rw [rcV_app, hV]; simp [rcV]
  rw [e, List.length_append]
  exact hr.keep fun r hr2 => ne hr2
/-- A cell that is written: all else stays. -/
theorem KL.set {L m : Nat} {H G : AH} {o : AO} (h : KL L H G) (hm : H.length ≤ m) : KL L H (G.set m o) := ⟨by simpa using h.1, fun k x hk hL hn => by
  rw [List.getElem?_set_ne (fun e => by subst e; have := (List.getElem?_eq_some_iff.1 hk).1; omega)]; exact h.2 k x hk hL hn⟩
end Go.Proofs.Ytbcfhiohdamcjaa.Ge
