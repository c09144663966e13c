/- Reading and writing cells. -/
import Derived.Test.YtjglohfkpigdfaaDoorAmCore
import Derived.Laws.Sem
import Derived.Laws.World
set_option linter.unusedSimpArgs false
set_option linter.unusedVariables false
set_option linter.unusedSectionVars false
set_option linter.unnecessarySimpa false
namespace Am
open Go Go.RowKit

structure Touch (w w' : World) (b : Nat) : Prop where
  os : w'.os = w.os
  tape : w'.tape = w.tape
  output : w'.output = w.output
  size : w'.heap.size = w.heap.size
  other : ∀ k, k ≠ b → w'.heap[k]? = w.heap[k]?

theorem Touch.refl (w : World) (b : Nat) : Touch w w b := ⟨rfl, rfl, rfl, rfl, fun _ _ => rfl⟩
theorem Touch.trans {a b c : World} {k : Nat} (h : Touch a b k) (h' : Touch b c k) : Touch a c k :=
  ⟨h'.os.trans h.os, h'.tape.trans h.tape, h'.output.trans h.output, h'.size.trans h.size, fun i hi => (h'.other i hi).trans (h.other i hi)⟩

theorem touch_setCell (w : World) (a : Addr) (x : Value) : Touch w (w.setCell a x) a.block :=
  ⟨rfl, rfl, rfl, by simp, fun k hk => Below.heap_setCell w a x k hk⟩

theorem cell_at {w : World} {b : Nat} {C : Array Value} {t : TypeId} {f : Nat × Nat} (h : w.heap[b]? = some (.cells C t f)) (o : Nat) : w.cell? ⟨b, o, none⟩ = C[o]? := by
  unfold World.cell?; rw [h]; rfl

theorem frozen_at {w : World} {b : Nat} {C : Array Value} {t : TypeId} (h : w.heap[b]? = some (.cells C t (0, 0))) (o : Nat) : w.frozen? ⟨b, o, none⟩ = false := by
  unfold World.frozen?; rw [h]; simp

theorem heap_setCell_at {w : World} {b o : Nat} {C : Array Value} {t : TypeId} {f : Nat × Nat} (h : w.heap[b]? = some (.cells C t f)) (x : Value) :
    (w.setCell ⟨b, o, none⟩ x).heap[b]? = some (.cells (C.setIfInBounds o x) t f) := by
  simp only [World.setCell, Array.getElem?_modify, if_true, h]; rfl

theorem addr_add (b o n : Nat) : Addr.add ⟨b, o, none⟩ n = ⟨b, o + n, none⟩ := by
  unfold Addr.add; split <;> simp_all

def splice {α : Type} (c : List α) (off : Nat) (vs : List α) : List α := c.take off ++ vs ++ c.drop (off + vs.length)

theorem splice_length {α : Type} (c : List α) (off : Nat) (vs : List α) (h : off + vs.length ≤ c.length) : (splice c off vs).length = c.length := by
  simp [splice]; omega

theorem splice_nil {α : Type} (c : List α) (off : Nat) : splice c off [] = c := by simp [splice]

theorem splice_cons {α : Type} (c : List α) (off : Nat) (v : α) (vs : List α) (h : off < c.length) : splice c off (v :: vs) = splice (c.set off v) (off + 1) vs := by
  simp only [splice, List.length_cons]
  rw [List.take_succ_eq_append_getElem (by simpa using h), List.drop_set, if_pos (by omega)]
  rw [List.take_set_of_le (Nat.le_refl _), List.getElem_set_self]
  simp
  congr 1
  omega

theorem run_loadCellsFrom (P : Program) (w : World) (b off : Nat) {C : Array Value} {t : TypeId} {f : Nat × Nat} (h : w.heap[b]? = some (.cells C t f)) :
    ∀ (n i : Nat) (acc : Array Value), off + i + n ≤ C.size → (loadCellsFrom ⟨b, off, none⟩ i n acc).run P w = .ok (acc ++ ((C.toList.drop (off + i)).take n).toArray) w := by
  intro n
  induction n with
  | zero => intro i acc _; simp [loadCellsFrom]
  | succ n ih =>
    intro i acc hn
    have hlt : off + i < C.size := by omega
    simp only [loadCellsFrom, Sem.run_bind, run_load, addr_add, cell_at h, Array.getElem?_eq_getElem hlt, Result.andThen_ok]
    rw [ih (i + 1) _ (by omega)]
    congr 1
    have hd : C.toList.drop (off + i) = C[off + i] :: C.toList.drop (off + i + 1) := by
      rw [List.drop_eq_getElem_cons (by simpa using hlt)]; simp
    rw [hd, List.take_succ_cons, ← Nat.add_assoc]
    apply Array.ext'
    simp

/-- The same, wherever each cell is known. -/
theorem run_loadCells_of (P : Program) (w : World) (a : Addr) :
    ∀ (vs : List Value) (i : Nat) (acc : Array Value), (∀ (j : Nat) x, vs[j]? = some x → w.cell? (a.add (i + j)) = some x) → (loadCellsFrom a i vs.length acc).run P w = .ok (acc ++ vs.toArray) w := by
  intro vs
  induction vs with
  | nil => intro i acc _; simp [loadCellsFrom]
  | cons v vs ih =>
    intro i acc h
    have h0 := h 0 v rfl
    simp only [List.length_cons, loadCellsFrom, Sem.run_bind, run_load]
    rw [show a.add i = a.add (i + 0) from rfl, h0]
    simp only [Result.andThen_ok]
    rw [ih (i + 1) _ (fun j x hj => by rw [Nat.add_assoc, Nat.add_comm 1 j]; exact h (j + 1) x hj)]
    congr 1
    apply Array.ext'
    simp

theorem run_storeCells (P : Program) (b off : Nat) {t : TypeId} :
    ∀ (Vs : List Value) (i : Nat) (w : World) (C : Array Value), w.heap[b]? = some (.cells C t (0, 0)) → (∀ v ∈ Vs, v.oneCell' = true) → off + i + Vs.length ≤ C.size →
    ∃ w' C', (storeCells ⟨b, off, none⟩ Vs i).run P w = .ok () w' ∧ w'.heap[b]? = some (.cells C' t (0, 0)) ∧ C'.toList = splice C.toList (off + i) Vs ∧ Touch w w' b ∧ w'.drawn = w.drawn := by
  intro Vs
  induction Vs with
  | nil => intro i w C h _ _; exact ⟨w, C, by simp [storeCells], h, by simp [splice_nil], Touch.refl _ _, rfl⟩
  | cons v vs ih =>
    intro i w C h hone hfit
    have hlt : off + i < C.size := by simp at hfit; omega
    have hcell : w.cell? ⟨b, off + i, none⟩ = some C[off + i] := by rw [cell_at h, Array.getElem?_eq_getElem hlt]
    obtain ⟨w', C', h1, h2, h3, h4, h5⟩ := ih (i + 1) (w.setCell ⟨b, off + i, none⟩ v) (C.setIfInBounds (off + i) v) (heap_setCell_at h v) (fun u hu => hone u (List.mem_cons_of_mem _ hu)) (by simp at hfit ⊢; omega)
    refine ⟨w', C', ?_, h2, ?_, (touch_setCell w ⟨b, off + i, none⟩ v).trans h4, h5.trans rfl⟩
    · simp only [storeCells, Sem.run_bind, addr_add]
      rw [run_store P w _ v .plain (hone v (List.mem_cons_self ..)), hcell, frozen_at h]
      simpa using h1
    · rw [h3, splice_cons _ _ _ _ (by simpa using hlt)]
      simp [Nat.add_assoc]

/-! ### Abstract reading and writing -/
def AO.content : AO → Option (List AV)
  | .cells c _ | .row c _ _ => some c
  | _ => none

def readN (R : Ro) (H : AH) (n : Nat) : Loc → Nat → Option (List AV)
  | .mu i, off => match (H[i]?).bind AO.content with
    | some c => if off + n ≤ c.length then some ((c.drop off).take n) else none
    | none => none
  | .ro b, off => (List.range n).mapM fun k => R b (off + k)

def read1 (R : Ro) (H : AH) : Loc → Nat → Option AV
  | .mu i, off => match (H[i]?).bind AO.content with
    | some c => c[off]?
    | none => none
  | .ro b, off => R b off

theorem content_ok {ρ : Ren} {w : World} {p : Slot} {o : AO} {c : List AV} (h : okO ρ w p o) (hc : o.content = some c) :
    ∃ C t cs, w.heap[p.blk]? = some (.cells C t (0, 0)) ∧ renL ρ c = some cs ∧ (C.toList.drop p.sh).take cs.length = cs := by
  cases o with
  | cells c' t => simp [AO.content] at hc; subst hc; obtain ⟨C, cs, h1, h2, h3⟩ := h; exact ⟨C, t, cs, h1, h2, h3⟩
  | row c' t sz => simp [AO.content] at hc; subst hc; obtain ⟨C, cs, h1, h2, h3, _⟩ := h; exact ⟨C, t, cs, h1, h2, h3⟩
  | map es k => simp [AO.content] at hc
  | siter s pos => simp [AO.content] at hc
  | dead => simp [AO.content] at hc

theorem take_drop_get {α : Type} {L cs : List α} {s i : Nat} {x : α} (h : (L.drop s).take cs.length = cs) (hx : cs[i]? = some x) : L[s + i]? = some x := by
  have hi := (List.getElem?_eq_some_iff.1 hx).1
  rw [← h, List.getElem?_take_of_lt hi, List.getElem?_drop] at hx
  exact hx

theorem fits_of_take {α : Type} {L cs : List α} {s : Nat} (h : (L.drop s).take cs.length = cs) (hc : cs ≠ []) : s + cs.length ≤ L.length := by
  have := congrArg List.length h
  simp at this
  have : cs.length ≠ 0 := by simpa using hc
  omega

theorem okO_content_live {o : AO} {c : List AV} (hc : o.content = some c) : o.live = true := by
  cases o <;> simp_all [AO.content, AO.live]

theorem read1_sound {R : Ro} {base : World} (hR : ROk R base) {ρ : Ren} {H : AH} {w : World} (h : Rel base ρ H w) {l : Loc} {off : Nat} {v : AV} (hv : read1 R H l off = some v) {a : Addr}
    (ha : l.addr ρ off = some a) : ∃ x, ren ρ v = some x ∧ w.cell? a = some x := by
  cases l with
  | ro b =>
    simp only [Loc.addr] at ha; cases ha
    obtain ⟨hb, x, hx, hc⟩ := hR b off v hv
    exact ⟨x, ren_ext ⟨ρ, by simp⟩ hx, by rw [h.below.cell (p := ⟨b, off, none⟩) hb]; exact hc⟩
  | mu i =>
    simp only [read1] at hv
    split at hv
    · rename_i c hc
      simp only [Option.bind_eq_some_iff] at hc
      obtain ⟨o, ho, hc⟩ := hc
      simp only [Loc.addr, Option.map_eq_some_iff] at ha
      obtain ⟨p, hp, rfl⟩ := ha
      obtain ⟨C, t, cs, h1, h2, h3⟩ := content_ok (h.obj i o p ho hp) hc
      obtain ⟨x, hx, hr⟩ := renL_getElem? h2 off v hv
      refine ⟨x, hr, ?_⟩
      rw [cell_at h1, ← Array.getElem?_toList]
      exact take_drop_get h3 hx
    · cases hv

theorem mapM_some {α β : Type} (f : α → Option β) : ∀ {l : List α} {r : List β}, l.mapM f = some r → r.length = l.length ∧ ∀ (i : Nat) a, l[i]? = some a → ∃ b, f a = some b ∧ r[i]? = some b
  | [], r, h => by simp at h; subst h; simp
  | a :: l, r, h => by
    simp only [List.mapM_cons] at h
    cases hf : f a with
    | none => simp [hf] at h
    | some b =>
      cases hl : l.mapM f with
      | none => simp [hf, hl] at h
      | some r' =>
        simp [hf, hl] at h
        subst h
        obtain ⟨h1, h2⟩ := mapM_some f hl
        refine ⟨by simp [h1], fun i x hx => ?_⟩
        cases i with
        | zero => simp at hx; subst hx; exact ⟨b, hf, rfl⟩
        | succ i => simpa using h2 i x (by simpa using hx)

theorem readN_sound {R : Ro} {base : World} (hR : ROk R base) {ρ : Ren} {H : AH} {w : World} (h : Rel base ρ H w) {l : Loc} {off n : Nat} {vs : List AV} (hv : readN R H n l off = some vs) {a : Addr}
    (ha : l.addr ρ off = some a) : ∃ X, renL ρ vs = some X ∧ X.length = n ∧ ∀ (P : Program) (acc : Array Value), (loadCellsFrom a 0 n acc).run P w = .ok (acc ++ X.toArray) w := by
  cases l with
  | ro b =>
    simp only [Loc.addr] at ha; cases ha
    simp only [readN] at hv
    obtain ⟨hl, hg⟩ := mapM_some _ hv
    simp at hl
    have key : ∀ (vs : List AV) (off : Nat), (∀ (i : Nat) v, vs[i]? = some v → R b (off + i) = some v) → ∃ X, renL ρ vs = some X ∧ ∀ (j : Nat) x, X[j]? = some x → w.cell? ⟨b, off + j, none⟩ = some x := by
      intro vs
      induction vs with
      | nil => intro off _; exact ⟨[], rfl, by simp⟩
      | cons v vs ih =>
        intro off hg
        obtain ⟨X, hX, hc⟩ := ih (off + 1) (fun i u hu => by rw [Nat.add_assoc, Nat.add_comm 1 i]; exact hg (i + 1) u (by simpa using hu))
        obtain ⟨hb, x, hx, hxc⟩ := hR b (off + 0) v (hg 0 v rfl)
        refine ⟨x :: X, renL_cons_mk (ren_ext ⟨ρ, by simp⟩ hx) hX, fun j y hy => ?_⟩
        cases j with
        | zero => simp at hy; subst hy; rw [h.below.cell (p := ⟨b, off + 0, none⟩) hb]; exact hxc
        | succ j => rw [show off + (j + 1) = off + 1 + j from by omega]; exact hc j y (by simpa using hy)
    obtain ⟨X, hX, hc⟩ := key vs off (fun i v hi => by
      have hin : i < n := by have := (List.getElem?_eq_some_iff.1 hi).1; omega
      obtain ⟨u, h1, h2⟩ := hg i i (by simp [List.getElem?_range, hin])
      rw [hi] at h2; cases h2; exact h1)
    have hlx := renL_length hX
    refine ⟨X, hX, by omega, fun P acc => ?_⟩
    have := run_loadCells_of P w ⟨b, off, none⟩ X 0 acc (fun j x hj => by rw [addr_add, Nat.zero_add]; exact hc j x hj)
    rw [hlx, hl] at this; exact this
  | mu i =>
    simp only [readN] at hv
    split at hv
    · rename_i c hc
      simp only [Option.bind_eq_some_iff] at hc
      obtain ⟨o, ho, hc⟩ := hc
      split at hv
      · rename_i hfit
        cases hv
        simp only [Loc.addr, Option.map_eq_some_iff] at ha
        obtain ⟨p, hp, rfl⟩ := ha
        obtain ⟨C, t, cs, h1, h2, h3⟩ := content_ok (h.obj i o p ho hp) hc
        have hlc := renL_length h2
        have hX := renL_take (renL_drop h2 off) n
        have hlen : ((cs.drop off).take n).length = n := by rw [List.length_take, List.length_drop, hlc]; omega
        refine ⟨_, hX, hlen, fun P acc => ?_⟩
        have := run_loadCells_of P w ⟨p.blk, p.sh + off, none⟩ ((cs.drop off).take n) 0 acc (fun j x hj => by
          rw [addr_add, Nat.zero_add, cell_at h1, ← Array.getElem?_toList]
          have hjn : j < n := by have := (List.getElem?_eq_some_iff.1 hj).1; omega
          rw [List.getElem?_take_of_lt hjn, List.getElem?_drop] at hj
          rw [Nat.add_assoc]
          exact take_drop_get h3 hj)
        rw [hlen] at this; exact this
      · cases hv
    · cases hv

def AV.oneCell : AV → Bool
  | .agg _ | .tuple _ => false
  | _ => true

theorem oneCell_ren {ρ : Ren} {v : AV} {x : Value} (h : ren ρ v = some x) (hv : v.oneCell = true) : x.oneCell' = true := by
  cases v <;> simp [AV.oneCell] at hv <;> simp only [ren, Option.map_eq_some_iff] at h <;> first
    | (cases h; rfl)
    | (obtain ⟨_, _, rfl⟩ := h; rfl)
    | (split at h <;> cases h; rfl)

theorem oneCell_renL {ρ : Ren} : ∀ {vs : List AV} {X : List Value}, renL ρ vs = some X → vs.all AV.oneCell = true → ∀ x ∈ X, x.oneCell' = true
  | [], X, h, _, x, hx => by rw [renL_nil h] at hx; cases hx
  | v :: vs, X, h, ha, x, hx => by
    obtain ⟨y, ys, h1, h2, rfl⟩ := renL_cons h
    simp at ha
    rcases List.mem_cons.1 hx with rfl | hx
    · exact oneCell_ren h1 ha.1
    · exact oneCell_renL h2 (by simpa using ha.2) x hx

def AO.withContent : AO → List AV → AO
  | .cells _ t, c => .cells c t
  | .row _ t sz, c => .row c t sz
  | o, _ => o

def writeN (H : AH) (i off : Nat) (vs : List AV) : Option AH :=
  match H[i]? with
  | some o => match o.content with
    | some c => if off + vs.length ≤ c.length ∧ vs.all AV.oneCell = true then some (H.set i (o.withContent (splice c off vs))) else none
    | none => none
  | none => none

theorem take_drop_splice {α : Type} {L cs vs : List α} {s off : Nat} (h : (L.drop s).take cs.length = cs) (hfit : off + vs.length ≤ cs.length) :
    ((splice L (s + off) vs).drop s).take (splice cs off vs).length = splice cs off vs := by
  rw [splice_length cs off vs hfit]
  by_cases hcs : cs = []
  · subst hcs
    have : off = 0 ∧ vs = [] := by simpa using hfit
    simp [this, splice]
  have hL := fits_of_take h hcs
  have hlen : (splice L (s + off) vs).length = L.length := splice_length _ _ _ (by omega)
  apply List.ext_getElem?
  intro i
  by_cases hi : i < cs.length
  · rw [List.getElem?_take_of_lt hi, List.getElem?_drop]
    have hget : ∀ j, j < cs.length → L[s + j]? = cs[j]? := fun j hj => by
      rw [← h, List.getElem?_take_of_lt hj, List.getElem?_drop]
    unfold splice
    by_cases h1 : i < off
    · rw [List.append_assoc, List.getElem?_append_left (by simp; omega), List.getElem?_take_of_lt (by omega), List.append_assoc, List.getElem?_append_left (by simp; omega), List.getElem?_take_of_lt h1]
      exact hget i hi
    · by_cases h2 : i < off + vs.length
      · rw [List.append_assoc, List.getElem?_append_right (by simp; omega), List.getElem?_append_left (by simp; omega), List.append_assoc, List.getElem?_append_right (by simp; omega), List.getElem?_append_left (by simp; omega)]
        congr 1
        simp; omega
      · rw [List.getElem?_append_right (by simp; omega), List.getElem?_drop, List.getElem?_append_right (by simp; omega), List.getElem?_drop]
        have e1 : s + off + vs.length + (s + i - (List.take (s + off) L ++ vs).length) = s + i := by simp; omega
        have e2 : off + vs.length + (i - (List.take off cs ++ vs).length) = i := by simp; omega
        rw [e1, e2]
        exact hget i hi
  · rw [List.getElem?_eq_none (by rw [List.length_take, List.length_drop]; omega), List.getElem?_eq_none (by rw [splice_length cs off vs hfit]; omega)]

theorem renL_splice {ρ : Ren} {c vs : List AV} {cs Vs : List Value} (h1 : renL ρ c = some cs) (h2 : renL ρ vs = some Vs) (off : Nat) : renL ρ (splice c off vs) = some (splice cs off Vs) := by
  unfold splice
  rw [renL_length h2]
  exact renL_append (renL_append (renL_take h1 off) h2) (renL_drop h1 _)

theorem writeN_sound {base : World} {ρ : Ren} {H H' : AH} {w : World} (h : Rel base ρ H w) {i off : Nat} {vs : List AV} (hw : writeN H i off vs = some H') {X : List Value} (hX : renL ρ vs = some X) {p : Slot}
    (hp : ρ[i]? = some p) : ∃ w', (∀ P, (storeCells ⟨p.blk, p.sh + off, none⟩ X 0).run P w = .ok () w') ∧ Rel base ρ H' w' := by
  unfold writeN at hw
  split at hw
  · rename_i o ho
    split at hw
    · rename_i c hc
      split at hw
      · rename_i hcond
        obtain ⟨hfit, hone⟩ := hcond
        cases hw
        have hobj := h.obj i o p ho hp
        have hlive := okO_content_live hc
        obtain ⟨C, t, cs, h1, h2, h3⟩ := content_ok hobj hc
        have hlc := renL_length h2
        have hlx := renL_length hX
        have hbound : p.sh + off + 0 + X.length ≤ C.size ∨ X = [] := by
          by_cases hx : X = []
          · exact .inr hx
          · left
            have : cs ≠ [] := by
              intro e; subst e; simp at hlc
              have : X.length = 0 := by rw [hlx]; omega
              exact hx (List.eq_nil_of_length_eq_zero this)
            have := fits_of_take h3 this
            simp at this; omega
        rcases hbound with hbound | rfl
        · have hrun := fun P => run_storeCells P p.blk (p.sh + off) X 0 w C h1 (oneCell_renL hX hone) hbound
          obtain ⟨w', C', r1, r2, r3, r4, r5⟩ := hrun default
          refine ⟨w', fun P => ?_, ?_⟩
          · obtain ⟨w'', C'', q1, q2, q3, q4, q5⟩ := hrun P
            rw [q1]
            congr 1
            have e1 : w''.heap = w'.heap := by
              apply Array.ext'
              apply List.ext_getElem?
              intro k
              simp only [Array.getElem?_toList]
              by_cases hk : k = p.blk
              · subst hk; rw [q2, r2]
                have : C'' = C' := Array.ext' (by rw [q3, r3])
                rw [this]
              · rw [q4.other k hk, r4.other k hk]
            cases w'; cases w''
            have := q4.os; have := q4.tape; have := q4.output; have := r4.os; have := r4.tape; have := r4.output
            simp_all
          · refine h.put ho hp hlive r4.os r4.tape r4.output r4.size r4.other ?_
            have hspl := renL_splice h2 hX off
            have htk : (C'.toList.drop p.sh).take (splice cs off X).length = splice cs off X := by
              rw [r3, Nat.add_zero]
              exact take_drop_splice h3 (by omega)
            have hCs : C'.size = C.size := by
              have := congrArg List.length r3
              rw [splice_length _ _ _ (by simpa using hbound)] at this
              simpa using this
            cases o with
            | cells c' t' =>
              simp [AO.content] at hc; subst hc
              obtain ⟨D, ds, d1, d2, d3⟩ := hobj
              rw [h1] at d1; cases d1
              exact ⟨C', _, r2, hspl, htk⟩
            | row c' t' sz =>
              simp [AO.content] at hc; subst hc
              obtain ⟨D, ds, d1, d2, d3, d4, d5⟩ := hobj
              rw [h1] at d1; cases d1
              exact ⟨C', _, r2, hspl, htk, by rw [hCs]; exact d4, by rw [splice_length _ _ _ hfit]; exact d5⟩
            | map es k => simp [AO.content] at hc
            | siter s pos => simp [AO.content] at hc
            | dead => simp [AO.content] at hc
        · have hv : vs = [] := List.eq_nil_of_length_eq_zero (by rw [← hlx]; rfl)
          subst hv
          refine ⟨w, fun P => rfl, ?_⟩
          rw [splice_nil]
          have : o.withContent c = o := by cases o <;> simp_all [AO.content, AO.withContent]
          rw [this]
          have : H.set i o = H := by
            apply List.ext_getElem?
            intro k
            rw [List.getElem?_set]
            split
            · subst_vars; split
              · exact ho.symm
              · rename_i hn; rw [List.getElem?_eq_none (by omega)]
            · rfl
          rw [this]; exact h
      · cases hw
    · cases hw
  · cases hw

end Am
