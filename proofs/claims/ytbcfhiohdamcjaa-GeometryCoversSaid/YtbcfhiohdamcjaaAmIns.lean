/- A growing row, seen to its capacity: for the library's code that asks for a capacity. -/
import Derived.Test.YtbcfhiohdamcjaaAmApp
import Derived.Test.YtbcfhiohdamcjaaAmArg
set_option linter.unusedSimpArgs false
set_option linter.unusedVariables false
set_option linter.unusedSectionVars false
set_option linter.unnecessarySimpa false
namespace Am
open Go Go.RowKit
theorem anyL : ∀ l : List Value, (∀ x ∈ l, ∃ v, ∀ ρ, ren ρ v = some x) → ∃ vs, ∀ ρ, renL ρ vs = some l
  | [], _ => ⟨[], fun _ => rfl⟩
  | x :: l, h => by
    obtain ⟨v, hv⟩ := h x (List.mem_cons_self ..)
    obtain ⟨vs, hvs⟩ := anyL l fun y hy => h y (List.mem_cons_of_mem _ hy)
    exact ⟨v :: vs, fun ρ => renL_cons_mk (hv ρ) (hvs ρ)⟩
/-- Any value is some abstract one's, whatever the blocks are called. -/
theorem anyAV (x : Value) : ∃ v, ∀ ρ, ren ρ v = some x := by
  match x with
  | .agg cs =>
    obtain ⟨vs, hvs⟩ := anyL cs.toList fun y hy => anyAV y
    exact ⟨.agg vs, fun ρ => by simp [ren, hvs]⟩
  | .tuple cs =>
    obtain ⟨vs, hvs⟩ := anyL cs.toList fun y hy => anyAV y
    exact ⟨.tuple vs, fun ρ => by simp [ren, hvs]⟩
  | .bool b => exact ⟨.raw (.bool b), fun ρ => by simp [ren, Value.oneCell']⟩
  | .int k n => exact ⟨.raw (.int k n), fun ρ => by simp [ren, Value.oneCell']⟩
  | .float k n => exact ⟨.raw (.float k n), fun ρ => by simp [ren, Value.oneCell']⟩
  | .complex k n m => exact ⟨.raw (.complex k n m), fun ρ => by simp [ren, Value.oneCell']⟩
  | .string n => exact ⟨.raw (.string n), fun ρ => by simp [ren, Value.oneCell']⟩
  | .pointer n => exact ⟨.raw (.pointer n), fun ρ => by simp [ren, Value.oneCell']⟩
  | .slice a b c => exact ⟨.raw (.slice a b c), fun ρ => by simp [ren, Value.oneCell']⟩
  | .map n => exact ⟨.raw (.map n), fun ρ => by simp [ren, Value.oneCell']⟩
  | .chan n => exact ⟨.raw (.chan n), fun ρ => by simp [ren, Value.oneCell']⟩
  | .func a b c => exact ⟨.raw (.func a b c), fun ρ => by simp [ren, Value.oneCell']⟩
  | .nilFunc => exact ⟨.raw .nilFunc, fun ρ => by simp [ren, Value.oneCell']⟩
  | .iface a b => exact ⟨.raw (.iface a b), fun ρ => by simp [ren, Value.oneCell']⟩
  | .nilIface => exact ⟨.raw .nilIface, fun ρ => by simp [ren, Value.oneCell']⟩
termination_by sizeOf x
decreasing_by
  all_goals
    have := Array.sizeOf_lt_of_mem (Array.mem_toList_iff.1 hy)
    simp only [Value.agg.sizeOf_spec, Value.tuple.sizeOf_spec]
    omega
theorem renL_iff {ρ : Ren} : ∀ {l : List AV}, (∀ x ∈ l, ∃ X, ren ρ x = some X) → ∃ L, renL ρ l = some L
  | [], _ => ⟨[], rfl⟩
  | x :: l, h => by
    obtain ⟨X, hX⟩ := h x (List.mem_cons_self ..)
    obtain ⟨L, hL⟩ := renL_iff fun y hy => h y (List.mem_cons_of_mem _ hy)
    exact ⟨X :: L, renL_cons_mk hX hL⟩
theorem renL_mem {ρ : Ren} {l : List AV} {L : List Value} (h : renL ρ l = some L) {x : AV} (hx : x ∈ l) : ∃ X, ren ρ x = some X := by
  obtain ⟨i, hi⟩ := List.getElem?_of_mem hx
  obtain ⟨X, _, hX⟩ := renL_getElem? h i x hi
  exact ⟨X, hX⟩
section
variable {base : World} {ρ ρ' : Ren} {H G : AH} {w w' : World}
theorem Rel.mat (h : Rel base ρ H w) {j : Nat} {c : List AV} {t : TypeId} {sz : Nat} {p : Slot} (hj : H[j]? = some (.row c t sz)) (hp : ρ[j]? = some p) :
    ∃ junk, (c ++ junk).length = p.ecap * sz ∧ Rel base ρ (H.set j (.cells (c ++ junk) t)) w := by
  obtain ⟨C, cs, h1, h2, h3, h4, h5⟩ := h.obj j _ p hj hp
  have hl := renL_length h2
  obtain ⟨junk, hjunk⟩ := anyL ((C.toList.drop (p.sh + cs.length)).take (p.ecap * sz - cs.length)) fun x _ => anyAV x
  have hjl := renL_length (hjunk ρ)
  simp only [List.length_take, List.length_drop, Array.length_toList] at hjl
  refine ⟨junk, by rw [List.length_append, ← hjl]; omega, h.put hj hp rfl rfl rfl rfl rfl (fun _ _ => rfl) ⟨C, _, h1, renL_append h2 (hjunk ρ), ?_⟩⟩
  have e : (cs ++ (C.toList.drop (p.sh + cs.length)).take (p.ecap * sz - cs.length)).length = cs.length + (p.ecap * sz - cs.length) := by
    simp only [List.length_append, List.length_take, List.length_drop, Array.length_toList]; omega
  rw [e, List.take_add, h3, List.drop_drop]
/-- What both worlds say of an object that stayed. -/
theorem okO_back {p : Slot} {o : AO} (hx : Ext ρ ρ') (h : okO ρ w p o) (h' : okO ρ' w' p o) : okO ρ w' p o := by
  cases o with
  | cells c t =>
    obtain ⟨C, cs, h1, h2, h3⟩ := h
    obtain ⟨C', cs', k1, k2, k3⟩ := h'
    rw [renL_ext hx h2] at k2; cases k2
    exact ⟨C', cs, k1, h2, k3⟩
  | row c t sz =>
    obtain ⟨C, cs, h1, h2, h3⟩ := h
    obtain ⟨C', cs', k1, k2, k3⟩ := h'
    rw [renL_ext hx h2] at k2; cases k2
    exact ⟨C', cs, k1, h2, k3⟩
  | map es k =>
    obtain ⟨E, h1, h2⟩ := h
    obtain ⟨E', k1, k2⟩ := h'
    rw [renE_ext hx h2] at k2
    exact ⟨E', k1, by rw [h2]; exact k2⟩
  | siter s pos => exact h'
  | obj b x es vs => exact ⟨h'.1, h'.2.1, h.2.2⟩
  | dead => trivial
/-- One object that a call made is kept, all others are forgotten. -/
theorem Rel.pick (h : Rel base ρ H w) (h' : Rel base ρ' G w') (hx : Ext ρ ρ') {j r : Nat} (hf : ∀ i, i < H.length → i ≠ j → G[i]? = H[i]?) {o o' : AO} {q : Slot} (hr : G[r]? = some o) (ho : o.live = true) (hq : ρ'[r]? = some q) (hrj : r = j ∨ H.length ≤ r)
    (hok : okO (ρ ++ [q]) w' q o') : Rel base (ρ ++ [q]) (H.set j .dead ++ [o']) w' := by
  have hle := h.len
  have lo : ∀ {i : Nat} {u : AO} {s : Slot}, i < H.length → (H.set j .dead ++ [o'])[i]? = some u → (ρ ++ [q])[i]? = some s → ρ[i]? = some s ∧ (u = .dead ∨ (i ≠ j ∧ H[i]? = some u ∧ G[i]? = some u ∧ ρ'[i]? = some s)) := by
    intro i u s hi hu hs
    rw [List.getElem?_append_left (by simpa using hi)] at hu
    rw [List.getElem?_append_left (by omega)] at hs
    refine ⟨hs, ?_⟩
    rw [List.getElem?_set] at hu
    by_cases hij : j = i
    · rw [if_pos hij, if_pos (by omega)] at hu
      cases hu; exact .inl rfl
    · rw [if_neg hij] at hu
      exact .inr ⟨fun e => hij e.symm, hu, by rw [hf i hi fun e => hij e.symm]; exact hu, hx.get hs⟩
  have hi : ∀ {i : Nat} {u : AO} {s : Slot}, ¬ i < H.length → (H.set j .dead ++ [o'])[i]? = some u → (ρ ++ [q])[i]? = some s → u = o' ∧ s = q ∧ i = H.length := by
    intro i u s hi hu hs
    have hl : i < (H.set j .dead ++ [o']).length := (List.getElem?_eq_some_iff.1 hu).1
    have e : i = H.length := by simp at hl; omega
    subst e
    rw [List.getElem?_append_right (by simp)] at hu
    rw [List.getElem?_append_right (by omega)] at hs
    simp at hu
    rw [hle] at hs; simp at hs
    exact ⟨hu.symm, hs.symm, rfl⟩
  have gq := h'.blk r o q hr hq ho
  have nq : ∀ {i : Nat} {u : AO} {s : Slot}, i < H.length → i ≠ j → G[i]? = some u → ρ'[i]? = some s → u.live = true → q.blk ≠ s.blk := by
    intro i u s hi hij hu hs hl
    exact h'.inj r i o u q s (by rcases hrj with e | e <;> omega) hr hu hq hs ho hl
  refine ⟨h'.below, by simp [hle], ?_, ?_, ?_⟩
  · intro i u s hu hs
    by_cases hil : i < H.length
    · obtain ⟨h1, rfl | ⟨h2, h3, h4, h5⟩⟩ := lo hil hu hs
      · trivial
      · exact okO_ext (Ext.mk _ _) (okO_back hx (h.obj i u s h3 h1) (h'.obj i u s h4 h5))
    · obtain ⟨rfl, rfl, _⟩ := hi hil hu hs
      exact hok
  · intro i u s hu hs hl
    by_cases hil : i < H.length
    · obtain ⟨h1, rfl | ⟨h2, h3, h4, h5⟩⟩ := lo hil hu hs
      · cases hl
      · exact h.blk i u s h3 h1 hl
    · obtain ⟨rfl, rfl, _⟩ := hi hil hu hs
      exact gq
  · intro i k u v s s' hik hu hv hs hs' hl hl'
    by_cases hil : i < H.length
    · obtain ⟨h1, rfl | ⟨h2, h3, h4, h5⟩⟩ := lo hil hu hs
      · cases hl
      · by_cases hkl : k < H.length
        · obtain ⟨k1, rfl | ⟨k2, k3, k4, k5⟩⟩ := lo hkl hv hs'
          · cases hl'
          · exact h.inj i k u v s s' hik h3 k3 h1 k1 hl hl'
        · obtain ⟨rfl, rfl, _⟩ := hi hkl hv hs'
          exact (nq hil h2 h4 h5 hl).symm
    · obtain ⟨rfl, rfl, rfl⟩ := hi hil hu hs
      by_cases hkl : k < H.length
      · obtain ⟨k1, rfl | ⟨k2, k3, k4, k5⟩⟩ := lo hkl hv hs'
        · cases hl'
        · exact nq hkl k2 k4 k5 hl'
      · obtain ⟨_, _, rfl⟩ := hi hkl hv hs'
        exact absurd rfl hik
end
/-- What becomes of a row that was seen to its capacity: it holds 'D' now, where it lay; or another row does. -/
def MatOut (H : AH) (j : Nat) (t : TypeId) (sz k : Nat) (D : List AV) (cap : Nat) (v : AV) (G : AH) : Prop :=
  (∀ i, i < H.length → i ≠ j → G[i]? = H[i]?) ∧ D.length = k * sz ∧
  ((v = .slice (.mu j) 0 k (.known cap) ∧ ∃ D', G[j]? = some (.cells D' t) ∧ D'.length = cap * sz ∧ D' ≠ [] ∧ D = D'.take (k * sz)) ∨
   (∃ r, H.length ≤ r ∧ v = .slice (.mu r) 0 k (.opn 0) ∧ G[r]? = some (.row D t sz)))
/-- What a call does of a row, by what it does of the row seen to its capacity, whatever that is. -/
theorem ACalls.mat {P : Program} {R : Ro} {f : FuncId} {rest : List AV} {H : AH} {j n k : Nat} {c D : List AV} {t : TypeId} {sz : Nat} (hj : H[j]? = some (.row c t sz)) (hD : ∀ x ∈ D, ∃ (i : Nat) (C : List AV), (H[i]?).bind AO.content = some C ∧ x ∈ C)
    (h : ∀ cap junk, (c ++ junk).length = cap * sz → ACalls P R f (.slice (.mu j) 0 n (.known cap) :: rest) (H.set j (.cells (c ++ junk) t)) (MatOut H j t sz k D cap)) :
    ACalls P R f (.slice (.mu j) 0 n (.opn 0) :: rest) H fun v G => v = .slice (.mu H.length) 0 k (.opn 0) ∧ G = H.set j .dead ++ [.row D t sz] := by
  intro base hR ρ w Vs hrel hV
  obtain ⟨p, hp⟩ := hrel.slot hj
  obtain ⟨junk, hlen, hmat⟩ := hrel.mat hj hp
  obtain ⟨x, xs, h1, h2, rfl⟩ := renL_cons hV
  have hx0 : ren ρ (.slice (.mu j) 0 n (.known p.ecap)) = some x := by
    simp only [ren, Loc.addr, Cap.num, hp, Option.map_some, Nat.sub_zero] at h1 ⊢
    exact h1
  refine (h p.ecap junk hlen base hR ρ w (x :: xs) hmat (renL_cons_mk hx0 h2)).mono ?_
  rintro e w' ⟨v, V, ρ', G, rfl, hx, hr', hv, hfr, hDl, hcase⟩
  have hDr : ∃ L, renL ρ D = some L := renL_iff fun y hy => by
    obtain ⟨i, C, hi, hyC⟩ := hD y hy
    simp only [Option.bind_eq_some_iff] at hi
    obtain ⟨o, ho, hc⟩ := hi
    obtain ⟨q, hq⟩ := hrel.slot ho
    obtain ⟨_, _, cs, _, k2, _⟩ := content_ok (hrel.obj i o q ho hq) hc
    exact renL_mem k2 hyC
  obtain ⟨L, hL⟩ := hDr
  have fin : ∀ {r : Nat} {o : AO} {q : Slot}, G[r]? = some o → o.live = true → ρ'[r]? = some q → (r = j ∨ H.length ≤ r) → okO ρ' w' q (.row D t sz) → V = .slice (some ⟨q.blk, q.sh, none⟩) k q.ecap →
      ∃ v V' ρ'' G', Ending.returned V = .returned V' ∧ Ext ρ ρ'' ∧ Rel base ρ'' G' w' ∧ ren ρ'' v = some V' ∧ v = .slice (.mu H.length) 0 k (.opn 0) ∧ G' = H.set j .dead ++ [.row D t sz] := by
    intro r o q hr ho hq hrj hok hV
    have hok' : okO (ρ ++ [q]) w' q (.row D t sz) := by
      obtain ⟨C, cs, a1, a2, a3, a4, a5⟩ := hok
      rw [renL_ext hx hL] at a2; cases a2
      exact ⟨C, _, a1, renL_ext (Ext.mk _ _) hL, a3, a4, a5⟩
    refine ⟨_, V, ρ ++ [q], _, rfl, Ext.mk _ _, hrel.pick hr' hx hfr hr ho hq hrj hok', ?_, rfl, rfl⟩
    have hle := hrel.len
    have e : (ρ ++ [q])[H.length]? = some q := by rw [List.getElem?_append_right (by omega), hle]; simp
    rw [hV]
    simp [ren, Loc.addr, Cap.num, e]
  rcases hcase with ⟨rfl, D', hG, hl', hne, rfl⟩ | ⟨r, hrl, rfl, hG⟩
  · have hq := hx.get hp
    have hV' : V = .slice (some ⟨p.blk, p.sh, none⟩) k p.ecap := by
      simp [ren, Loc.addr, Cap.num, hq] at hv
      exact hv.symm
    refine fin hG rfl hq (.inl rfl) ?_ hV'
    obtain ⟨C, cs, a1, a2, a3⟩ := hr'.obj j _ p hG hq
    have hcl := renL_length a2
    have hcne : cs ≠ [] := by
      intro e; subst e
      exact hne (List.eq_nil_of_length_eq_zero (by simpa using hcl.symm))
    have hfit := fits_of_take a3 hcne
    rw [List.length_take] at hDl
    refine ⟨C, _, a1, renL_take a2 (k * sz), ?_, ?_, ?_⟩
    · rw [List.length_take, ← List.take_take]
      have := congrArg (List.take (k * sz)) a3
      rw [List.take_take] at this
      rw [← this, List.take_take]
    · simp at hfit; omega
    · rw [List.length_take]; omega
  · obtain ⟨q, hq⟩ := hr'.slot hG
    refine fin hG rfl hq (.inr hrl) (hr'.obj r _ q hG hq) ?_
    simp [ren, Loc.addr, Cap.num, hq] at hv
    exact hv.symm
end Am
