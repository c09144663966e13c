/- Two logs over one lattice. -/
import Derived.Test.YtkcddlpmekejkaaDoorAuSeen
import Derived.Test.YtkcddlpmekejkaaDoorLatPure
namespace Go.Proofs.YtkcddlpmekejkaaDoor.Au
open Go Go.RowKit Am Latt
set_option maxRecDepth 100000
set_option linter.unusedSimpArgs false
set_option linter.unusedVariables false
variable {R : Ro}
structure TwoL (H : AH) (g kg h kh l p q : Nat) (T : List (List Bool)) (Eg Eh : List Ent) (m : Nat) : Prop where
  lat : LatIn H l p q (upT T) (dnT T)
  ats : ∃ rvg rvh, GAt H g l kg rvg T.length Eg ∧ GAt H h l kh rvh T.length Eh ∧ ∀ j, Own g kg rvg j → ¬ Own h kh rvh j
  nes : g ≠ kg ∧ h ≠ kh
  les : Eg.length ≤ m ∧ Eh.length ≤ m
variable {H : AH} {g kg h kh l p q m : Nat} {T : List (List Bool)} {Eg Eh : List Ent}
theorem TwoL.swap (S : TwoL H g kg h kh l p q T Eg Eh m) : TwoL H h kh g kg l p q T Eh Eg m := by
  obtain ⟨rg, rh, a, b, c⟩ := S.ats
  exact ⟨S.lat, ⟨rh, rg, b, a, fun j hj hi => c j hi hj⟩, S.nes.symm, S.les.symm⟩
theorem lat_lt (hL : LatIn H l p q (upT T) (dnT T)) : ∀ i, i = l ∨ i = p ∨ i = q → i < H.length := by
  rintro i (rfl | rfl | rfl)
  · exact (List.getElem?_eq_some_iff.1 hL.box).1
  · exact (List.getElem?_eq_some_iff.1 hL.pu).1
  · exact (List.getElem?_eq_some_iff.1 hL.qd).1
theorem TwoL.keeps {H' : AH} (S : TwoL H g kg h kh l p q T Eg Eh m) (hk : Keeps H H') : TwoL H' g kg h kh l p q T Eg Eh m := by
  obtain ⟨rg, rh, a, b, c⟩ := S.ats
  exact ⟨S.lat.frame fun i hi => hk.2 i (lat_lt S.lat i hi), ⟨rg, rh, a.keeps hk, b.keeps hk, c⟩, S.nes, S.les⟩
theorem TwoL.weak {m' : Nat} (S : TwoL H g kg h kh l p q T Eg Eh m) (hm : m ≤ m') : TwoL H g kg h kh l p q T Eg Eh m' := ⟨S.lat, S.ats, S.nes, by have := S.les; omega⟩
theorem GAt.kind {k n : Nat} {rv : AV} {E : List Ent} (h : GAt H g l k rv n E) {i : Nat} (hi : Own g k rv i) : (∃ c, H[i]? = some (.cells c 53)) ∨ (∃ c, H[i]? = some (.cells c 3)) ∨ ∃ c t z, H[i]? = some (.row c t z) := by
  rcases hi with rfl | rfl | ⟨o, ln, c, e⟩
  · exact .inl ⟨_, h.box⟩
  · exact .inr (.inl ⟨_, h.cnt⟩)
  · rcases h.row with ⟨e', _⟩ | ⟨j, e', hj, _⟩
    · rw [e] at e'; cases e'
    · rw [e] at e'; cases e'; exact .inr (.inr ⟨_, _, _, hj⟩)
theorem GAt.off {k n : Nat} {rv : AV} {E : List Ent} (h : GAt H g l k rv n E) {i : Nat} {c : List AV} {t : TypeId} (hi : H[i]? = some (.cells c t)) (h1 : t ≠ 53) (h2 : t ≠ 3) : ¬ Own g k rv i := fun ho => by
  rcases h.kind ho with ⟨c', e⟩ | ⟨c', e⟩ | ⟨c', t', z, e⟩
  · rw [hi] at e; cases e; exact h1 rfl
  · rw [hi] at e; cases e; exact h2 rfl
  · rw [hi] at e; cases e
theorem TwoL.put (S : TwoL H g kg h kh l p q T Eg Eh m) (g1 : 1 ≤ T.length) (g2 : T.length ≤ 64) (hm : m ≤ 1000) (x : Ent) :
    ACalls Tryd.prog R 12 [.ptr (.mu g) 0, .agg (cellsE x)] H fun v H' => v = .int .i64 (putF (upT T) T.length Eg x) ∧ (∀ (i : Nat) (c : List AV), H[i]? = some (AO.cells c 40) → H'[i]? = some (AO.cells c 40)) ∧ H.length ≤ H'.length ∧
      ((putF (upT T) T.length Eg x ≠ 0 ∧ TwoL H' g kg h kh l p q T Eg Eh m) ∨ (putF (upT T) T.length Eg x = 0 ∧ TwoL H' g kg h kh l p q T (Eg ++ [x]) Eh (m + 1))) := by
  obtain ⟨rg, rh, a, b, c⟩ := S.ats
  refine (put_at a (S.lat.at g1 g2) (upT_len T) (by have := S.les; omega) S.nes.1 x).mono ?_
  rintro v H' ⟨rfl, ⟨hne, hk⟩ | ⟨h0, rv', hG, hlen, hown, hfr⟩⟩
  · exact ⟨rfl, fun i c hi => by rw [hk.2 i (List.getElem?_eq_some_iff.1 hi).1]; exact hi, hk.1, .inl ⟨hne, S.keeps hk⟩⟩
  · refine ⟨rfl, fun i c hi => by rw [hfr i (List.getElem?_eq_some_iff.1 hi).1 (a.off hi (by decide) (by decide))]; exact hi, hlen, .inr ⟨h0, ?_, ⟨rv', rh, hG, b.frame fun i hi => hfr i (b.lt hi) fun ha => c i ha hi, fun j hj hi => ?_⟩, S.nes, ?_⟩⟩
    · refine S.lat.frame fun i hi => hfr i (lat_lt S.lat i hi) ?_
      rcases hi with rfl | rfl | rfl
      · exact a.off S.lat.box (by decide) (by decide)
      · exact a.off S.lat.pu (by decide) (by decide)
      · exact a.off S.lat.qd (by decide) (by decide)
    · rcases hown j hj with ha | ha
      · exact c j ha hi
      · have := b.lt hi; omega
    · have := S.les
      simp
      omega
theorem TwoL.len (S : TwoL H g kg h kh l p q T Eg Eh m) : ACalls Tryd.prog R 16 [.ptr (.mu g) 0] H fun v H' => v = .int .i64 Eg.length ∧ H' = H := by
  obtain ⟨rg, rh, a, b, c⟩ := S.ats
  exact len_at a
def headE (E : List Ent) : Ent := (E[0]?).getD (0, 0, 0, [])
def isE (E : List Ent) : Bool := (E[0]?).isSome
theorem TwoL.at0 (S : TwoL H g kg h kh l p q T Eg Eh m) : ACalls Tryd.prog R 17 [.ptr (.mu g) 0, .int .i64 0] H fun v H' => H' = H ∧ v = .tuple [.agg (cellsE (headE Eg)), .bool (isE Eg)] := by
  obtain ⟨rg, rh, a, b, c⟩ := S.ats
  refine (at_at a 0).mono ?_
  rintro v H' ⟨rfl, rfl⟩
  refine ⟨rfl, ?_⟩
  unfold headE isE
  rw [if_pos (by omega)]
  show (match Eg[0]? with | some x => _ | none => _) = _
  cases Eg[0]? <;> rfl
theorem head_more {E : List Ent} (x : Ent) (h : isE E = true) : headE (E ++ [x]) = headE E ∧ isE (E ++ [x]) = true := by
  cases E with
  | nil => cases h
  | cons y E => exact ⟨rfl, rfl⟩
theorem TwoL.seen (S : TwoL H g kg h kh l p q T Eg Eh m) (g1 : 1 ≤ T.length) (g2 : T.length ≤ 64) (hm : m ≤ 1000) (x : Int) : ACalls Tryd.prog R 19 [.ptr (.mu g) 0, .int .i64 x] H fun v H' => RowOwn H H' v (seenF (upT T) Eg x).length 4 40 (flat (seenF (upT T) Eg x)) := by
  obtain ⟨rg, rh, a, b, c⟩ := S.ats
  exact seen_at a (S.lat.at g1 g2) (by have := S.les; omega) x
theorem cnt_seen {up : List Nat} {z b : Int} (hb : bel up b z = true) : ∀ E : List Ent, cntE (seenF up E z) b = cntE E b
  | [] => rfl
  | y :: E => by
    have ih := cnt_seen hb E
    unfold cntE seenF at ih ⊢
    by_cases h1 : y.1 = b
    · have : bel up y.1 z = true := by rw [h1]; exact hb
      rw [List.filter_cons, if_pos this, List.filter_cons, if_pos (by simpa using h1), List.filter_cons, if_pos (by simpa using h1), List.length_cons, List.length_cons, ih]
    · have hn : ¬ decide (y.1 = b) = true := by simpa using h1
      by_cases h2 : bel up y.1 z = true
      · rw [List.filter_cons, if_pos h2, List.filter_cons, if_neg hn, List.filter_cons, if_neg hn, ih]
      · rw [List.filter_cons, if_neg h2, ih, List.filter_cons, if_neg hn]
theorem put_seen {up : List Nat} {n : Nat} {z : Int} {x : Ent} (hb : bel up x.1 z = true) (E : List Ent) : putF up n (seenF up E z) x = putF up n E x := by
  unfold putF roomF
  rw [cnt_seen hb]
theorem put_apart {up : List Nat} {n : Nat} {E : List Ent} {x : Ent} (h : putF up n E x = 0) : bel up x.2.1 x.2.2.1 = false := by
  unfold putF at h
  split at h
  · split at h
    · split at h
      · split at h
        · cases h
        · rename_i h'; simpa using h'
      · cases h
    · cases h
  · cases h
theorem seen_app (up : List Nat) (E : List Ent) (x : Ent) (z : Int) : seenF up (E ++ [x]) z = seenF up E z ++ if bel up x.1 z then [x] else [] := by
  unfold seenF
  rw [List.filter_append]
  cases h : bel up x.1 z <;> simp [h]
theorem seen_seen (up : List Nat) (E : List Ent) (z : Int) : seenF up (seenF up E z) z = seenF up E z := by simp [seenF]
end Go.Proofs.YtkcddlpmekejkaaDoor.Au
