/- Two sets of buffers over one lattice. -/
import Derived.Test.YtjncbipaikmogaaDoorBfPure
namespace Go.Proofs.YtjncbipaikmogaaDoor.Bf
open Go Go.RowKit Am Latt
set_option maxRecDepth 100000
set_option linter.unusedSimpArgs false
set_option linter.unusedVariables false
variable {R : Ro}
theorem lat_off {H : AH} {b l r p q : Nat} {l' : Nat} {C : List AV} {S : List LB} {cs : List AV} {up dn : List Nat} (h : At H b l' r C S cs) (hL : LatIn H l p q up dn) : ∀ i, i = l ∨ i = p ∨ i = q → ¬ Own b r cs i := by
  intro i hi ho
  have hk := h.kind ho
  rcases hi with rfl | rfl | rfl
  · rw [hL.box] at hk; simp at hk
  · rw [hL.pu] at hk; simp at hk
  · rw [hL.qd] at hk; simp at hk
theorem lat_lt {H : AH} {l p q : Nat} {up dn : List Nat} (hL : LatIn H l p q up dn) : ∀ i, i = l ∨ i = p ∨ i = q → i < H.length := by
  rintro i (rfl | rfl | rfl)
  · exact (List.getElem?_eq_some_iff.1 hL.box).1
  · exact (List.getElem?_eq_some_iff.1 hL.pu).1
  · exact (List.getElem?_eq_some_iff.1 hL.qd).1
structure Two (H : AH) (ba bb l p q : Nat) (T : List (List Bool)) (Sa Sb : List LB) (k : Nat) : Prop where
  lat : LatIn H l p q (upT T) (dnT T)
  ats : ∃ ra Ca csa rb Cb csb, At H ba l ra Ca Sa csa ∧ At H bb l rb Cb Sb csb ∧ ∀ j, Own ba ra csa j → ¬ Own bb rb csb j
  oa : OkS Sa k
  ob : OkS Sb k
theorem Two.swap {H : AH} {ba bb l p q : Nat} {T : List (List Bool)} {Sa Sb : List LB} {k : Nat} (h : Two H ba bb l p q T Sa Sb k) : Two H bb ba l p q T Sb Sa k := by
  obtain ⟨h1, ⟨ra, Ca, csa, rb, Cb, csb, hA, hB, hd⟩, h3, h4⟩ := h
  exact ⟨h1, ⟨rb, Cb, csb, ra, Ca, csa, hB, hA, fun j hb ha => hd j ha hb⟩, h4, h3⟩
theorem Two.keeps {H H' : AH} {ba bb l p q : Nat} {T : List (List Bool)} {Sa Sb : List LB} {k : Nat} (h : Two H ba bb l p q T Sa Sb k) (hk : Keeps H H') : Two H' ba bb l p q T Sa Sb k := by
  obtain ⟨h1, ⟨ra, Ca, csa, rb, Cb, csb, hA, hB, hd⟩, h3, h4⟩ := h
  exact ⟨h1.frame fun i hi => hk.2 i (lat_lt h1 i hi), ⟨ra, Ca, csa, rb, Cb, csb, Own.keeps hA hk, Own.keeps hB hk, hd⟩, h3, h4⟩
theorem Two.more {H : AH} {ba bb l p q : Nat} {T : List (List Bool)} {Sa Sb : List LB} {k k' : Nat} (h : Two H ba bb l p q T Sa Sb k) (hk : k ≤ k') : Two H ba bb l p q T Sa Sb k' := ⟨h.lat, h.ats, h.oa.mono hk, h.ob.mono hk⟩
/-- What else lies there stays. -/
def Stays (H H' : AH) : Prop := ∀ (i : Nat) c (t : TypeId), t ≠ 82 → t ≠ 87 → H[i]? = some (.cells c t) → H'[i]? = some (.cells c t)
theorem Stays.refl (H : AH) : Stays H H := fun _ _ _ _ _ h => h
theorem Stays.trans {A B C : AH} (h : Stays A B) (k : Stays B C) : Stays A C := fun i c t h1 h2 h3 => k i c t h1 h2 (h i c t h1 h2 h3)
theorem Keeps.stays {H H' : AH} (h : Keeps H H') : Stays H H' := fun i c t _ _ hc => by rw [h.2 i (List.getElem?_eq_some_iff.1 hc).1]; exact hc
theorem At.stays {H H' : AH} {b l r : Nat} {C : List AV} {S : List LB} {cs cs' : List AV} (h : At H b l r C S cs) (hm : Moved H H' b r cs cs') : Stays H H' := fun i c t h1 h2 hc => by
  rw [hm.2.1 i (List.getElem?_eq_some_iff.1 hc).1 fun ho => ?_]
  · exact hc
  · rcases h.kind ho with ⟨d, e⟩ | ⟨d, e⟩ | ⟨d, e⟩
    · rw [hc] at e; simp at e; exact h1 e.2
    · rw [hc] at e; simp at e; exact h2 e.2
    · rw [hc] at e; cases e
/-- What becomes of both if one is changed. -/
theorem two_moved {H H' : AH} {ba bb l p q ra rb : Nat} {T : List (List Bool)} {Ca Ca' Cb csa csa' csb : List AV} {Sa Sa' Sb : List LB} {k' : Nat} (hl : LatIn H l p q (upT T) (dnT T)) (hA : At H ba l ra Ca Sa csa) (hB : At H bb l rb Cb Sb csb) (hd : ∀ j, Own ba ra csa j → ¬ Own bb rb csb j)
    (hA' : At H' ba l ra Ca' Sa' csa') (hm : Moved H H' ba ra csa csa') (ho : OkS Sa' k') (hb : OkS Sb k') : Two H' ba bb l p q T Sa' Sb k' := by
  refine ⟨hl.frame fun i hi => hm.2.1 i (lat_lt hl i hi) (lat_off hA hl i hi), ⟨ra, Ca', csa', rb, Cb, csb, hA', hB.frame fun i hi => hm.2.1 i (hB.lt hi) fun ha => hd i ha hi, fun j ha hb => ?_⟩, ho, hb⟩
  rcases hm.2.2 j ha with h1 | h1
  · exact hd j h1 hb
  · have := hB.lt hb; omega
theorem Two.put {H : AH} {ba bb l p q : Nat} {T : List (List Bool)} {Sa Sb : List LB} {k : Nat} (h : Two H ba bb l p q T Sa Sb k) (hk : k ≤ 100000) (a : Int) (s : List UInt8) :
    ACalls Tryd.prog R 11 [.ptr (.mu ba) 0, .int .i64 a, .str s] H fun v H' => v = .tuple [.int .i64 (putS Sa a s).1.1, .int .i64 (putS Sa a s).1.2] ∧ Two H' ba bb l p q T (putS Sa a s).2 Sb (k + 1) ∧ Stays H H' := by
  obtain ⟨h1, ⟨ra, Ca, csa, rb, Cb, csb, hA, hB, hd⟩, h3, h4⟩ := h
  refine (put_ok hA a s h3.len fun x hx => ⟨(h3 x hx).g0, by have := (h3 x hx).gk; omega⟩).mono ?_
  rintro v H' ⟨C', cs', rfl, hA', hm⟩
  exact ⟨rfl, two_moved h1 hA hB hd hA' hm (h3.put a s) (h4.mono (by omega)), hA.stays hm⟩
theorem Two.drop {H : AH} {ba bb l p q : Nat} {T : List (List Bool)} {Sa Sb : List LB} {k : Nat} (h : Two H ba bb l p q T Sa Sb k) (a n : Int) :
    ACalls Tryd.prog R 13 [.ptr (.mu ba) 0, .int .i64 a, .int .i64 n] H fun v H' => v = .int .i64 (dropS Sa a n).1 ∧ Two H' ba bb l p q T (dropS Sa a n).2 Sb k ∧ Stays H H' := by
  obtain ⟨h1, ⟨ra, Ca, csa, rb, Cb, csb, hA, hB, hd⟩, h3, h4⟩ := h
  refine (drop_ok hA a n h3.len).mono ?_
  rintro v H' ⟨C', cs', rfl, hA', hm⟩
  exact ⟨rfl, two_moved h1 hA hB hd hA' hm (h3.drop a n) h4, hA.stays hm⟩
theorem Two.get {H : AH} {ba bb l p q : Nat} {T : List (List Bool)} {Sa Sb : List LB} {k : Nat} (h : Two H ba bb l p q T Sa Sb k) (a n : Int) :
    ACalls Tryd.prog R 18 [.ptr (.mu ba) 0, .int .i64 a, .int .i64 n] H fun v H' => v = .tuple [.str ((getS Sa a n).getD []), .bool (getS Sa a n).isSome] ∧ H' = H := by
  obtain ⟨h1, ⟨ra, Ca, csa, rb, Cb, csb, hA, hB, hd⟩, h3, h4⟩ := h
  exact get_ok hA a n h3.len
theorem Two.room {H : AH} {ba bb l p q : Nat} {T : List (List Bool)} {Sa Sb : List LB} {k : Nat} (h : Two H ba bb l p q T Sa Sb k) (a : Int) :
    ACalls Tryd.prog R 20 [.ptr (.mu ba) 0, .int .i64 a] H fun v H' => v = .int .i64 (roomS Sa a) ∧ H' = H := by
  obtain ⟨h1, ⟨ra, Ca, csa, rb, Cb, csb, hA, hB, hd⟩, h3, h4⟩ := h
  exact room_ok hA a h3.len
theorem Two.seen {H : AH} {ba bb l p q : Nat} {T : List (List Bool)} {Sa Sb : List LB} {k : Nat} (h : Two H ba bb l p q T Sa Sb k) (g1 : 1 ≤ T.length) (g2 : T.length ≤ 64) (hS : Sa.length = (upT T).length) (a : Int) :
    ACalls Tryd.prog R 19 [.ptr (.mu ba) 0, .int .i64 a] H fun v H' => RowOwn H H' v (seenS Sa (downs (upT T) a (upT T).length)).length 2 53 (nmsV (seenS Sa (downs (upT T) a (upT T).length))) := by
  obtain ⟨h1, ⟨ra, Ca, csa, rb, Cb, csb, hA, hB, hd⟩, h3, h4⟩ := h
  exact seen_ok hA (h1.at g1 g2) hS a h3.len
theorem Two.below {H : AH} {ba bb l p q : Nat} {T : List (List Bool)} {Sa Sb : List LB} {k : Nat} (h : Two H ba bb l p q T Sa Sb k) (g1 : 1 ≤ T.length) (g2 : T.length ≤ 64) (a b : Int) : ACalls Tryd.prog R 17 [.ptr (.mu l) 0, .int .i64 a, .int .i64 b] H fun v H' => v = .bool (bel (upT T) a b) ∧ H' = H :=
  below_ok (h.lat.at g1 g2) a b
end Go.Proofs.YtjncbipaikmogaaDoor.Bf
