/- What is done for the labels below one: in plain words. -/
import Derived.Test.YtjncbipaikmogaaDoorBfNew
namespace Go.Proofs.YtjncbipaikmogaaDoor.Bf
open Go Go.RowKit Am Latt
set_option linter.unusedSimpArgs false
set_option linter.unusedVariables false
structure OkL (x : LB) (k : Nat) : Prop where
  le : x.l.length ≤ 8
  g0 : 0 ≤ x.given
  gk : x.given ≤ k
  nd : (x.l.map Prod.fst).Nodup
  lt : ∀ t ∈ x.l, t.1 < x.given
def OkS (S : List LB) (k : Nat) : Prop := ∀ x ∈ S, OkL x k
theorem OkS.mono {S : List LB} {k k' : Nat} (h : OkS S k) (hk : k ≤ k') : OkS S k' := fun x hx => ⟨(h x hx).le, (h x hx).g0, by have := (h x hx).gk; omega, (h x hx).nd, (h x hx).lt⟩
theorem OkS.len {S : List LB} {k : Nat} (h : OkS S k) : ∀ x ∈ S, x.l.length ≤ 8 := fun x hx => (h x hx).le
theorem S0_ok (n : Nat) : OkS (S0 n) 0 := fun x hx => by
  cases List.eq_of_mem_replicate hx
  exact ⟨by simp, by simp, by simp, by simp, fun t ht => by cases ht⟩
theorem OkS.set {S : List LB} {k k' : Nat} (h : OkS S k) (hk : k ≤ k') {an : Nat} {y : LB} (hy : OkL y k') : OkS (S.set an y) k' := fun x hx => by
  rcases List.mem_or_eq_of_mem_set hx with hx | rfl
  · exact h.mono hk x hx
  · exact hy
theorem putS_eq (S : List LB) (a : Int) (s : List UInt8) : putS S a s = match lbAt S a with
    | some x => if 4096 < s.length then ((0, 3), S) else if x.l.length = 8 then ((0, 6), S) else ((x.given, 0), S.set a.toNat ⟨(x.given, s) :: x.l, x.given + 1⟩)
    | none => ((0, 1), S) := by
  unfold putS lbAt
  split
  · rfl
  · rfl
theorem OkS.put {S : List LB} {k : Nat} (h : OkS S k) (a : Int) (s : List UInt8) : OkS (putS S a s).2 (k + 1) := by
  rw [putS_eq]
  split
  · rename_i x hx
    obtain ⟨an, rfl, han, rfl⟩ := lbAt_some hx
    have ho := h _ (List.getElem_mem han)
    split
    · exact h.mono (by omega)
    · split
      · exact h.mono (by omega)
      · refine h.set (by omega) ⟨?_, ?_, ?_, ?_, ?_⟩
        · simp; have := ho.le; omega
        · show 0 ≤ S[an].given + 1; have := ho.g0; omega
        · show S[an].given + 1 ≤ ((k + 1 : Nat) : Int); have := ho.gk; omega
        · rw [List.map_cons, List.nodup_cons]
          refine ⟨fun hm => ?_, ho.nd⟩
          obtain ⟨t, ht, he⟩ := List.mem_map.1 hm
          have := ho.lt t ht
          simp only at he; omega
        · intro t ht
          show t.1 < S[an].given + 1
          rcases List.mem_cons.1 ht with rfl | ht
          · show S[an].given < _; omega
          · have := ho.lt t ht; omega
  · exact h.mono (by omega)
theorem OkS.drop {S : List LB} {k : Nat} (h : OkS S k) (a n : Int) : OkS (dropS S a n).2 k := by
  unfold dropS
  split
  · exact h
  · rename_i x hx
    obtain ⟨an, rfl, han, rfl⟩ := lbAt_some hx
    have ho := h _ (List.getElem_mem han)
    split
    · exact h
    · rename_i j hj
      refine h.set (Nat.le_refl _) ⟨?_, ho.g0, ho.gk, ?_, fun t ht => ho.lt t (List.mem_of_mem_eraseIdx ht)⟩
      · have := List.length_eraseIdx_le S[an].l j; have := ho.le; show (S[an].l.eraseIdx j).length ≤ 8; omega
      · exact (List.Sublist.map _ (List.eraseIdx_sublist S[an].l j)).nodup ho.nd
theorem put_len (S : List LB) (a : Int) (s : List UInt8) : (putS S a s).2.length = S.length := by
  rw [putS_eq]; split
  · split
    · rfl
    · split <;> simp
  · rfl
theorem drop_len (S : List LB) (a n : Int) : (dropS S a n).2.length = S.length := by
  unfold dropS; split
  · rfl
  · split <;> simp
/-- What stands for the labels below 'x' is the same. -/
structure Alike (up : List Nat) (x : Int) (S T : List LB) : Prop where
  ls : S.length = up.length
  lt : T.length = up.length
  same : ∀ a : Nat, bel up a x = true → S[a]? = T[a]?
theorem bel_lt {up : List Nat} {a b : Int} (h : bel up a b = true) : isL up.length a = true ∧ isL up.length b = true := by
  unfold bel at h
  simp only [Bool.and_eq_true] at h
  exact ⟨h.1, h.2.1⟩
theorem Alike.lb {up : List Nat} {x : Int} {S T : List LB} (h : Alike up x S T) {a : Int} (ha : bel up a x = true) : lbAt S a = lbAt T a := by
  have hl := (bel_lt ha).1
  have hl2 := hl
  simp only [isL, Bool.and_eq_true, decide_eq_true_eq] at hl2
  obtain ⟨an, rfl⟩ : ∃ k : Nat, a = k := ⟨a.toNat, by omega⟩
  have := h.same an ha
  unfold lbAt
  rw [h.ls, h.lt, if_pos hl, if_pos hl]
  simpa using this
theorem Alike.set {up : List Nat} {x : Int} {S T : List LB} (h : Alike up x S T) (an : Nat) (y : LB) : Alike up x (S.set an y) (T.set an y) := by
  refine ⟨by simp [h.ls], by simp [h.lt], fun a ha => ?_⟩
  rw [List.getElem?_set, List.getElem?_set, h.ls, h.lt, h.same a ha]
theorem Alike.left {up : List Nat} {x : Int} {S T : List LB} (h : Alike up x S T) {an : Nat} (hb : bel up (an : Nat) x = false) (y : LB) : Alike up x (S.set an y) T := by
  refine ⟨by simp [h.ls], h.lt, fun a ha => ?_⟩
  rw [List.getElem?_set]
  by_cases e : an = a
  · subst e; rw [hb] at ha; cases ha
  · rw [if_neg e]; exact h.same a ha
theorem Alike.put {up : List Nat} {x : Int} {S T : List LB} (h : Alike up x S T) {a : Int} (ha : bel up a x = true) (s : List UInt8) : (putS T a s).1 = (putS S a s).1 ∧ Alike up x (putS S a s).2 (putS T a s).2 := by
  rw [putS_eq, putS_eq, ← h.lb ha]
  split
  · split
    · exact ⟨rfl, h⟩
    · split
      · exact ⟨rfl, h⟩
      · exact ⟨rfl, h.set _ _⟩
  · exact ⟨rfl, h⟩
theorem Alike.putL {up : List Nat} {x : Int} {S T : List LB} (h : Alike up x S T) {a : Int} (ha : bel up a x = false) (s : List UInt8) : Alike up x (putS S a s).2 T := by
  rw [putS_eq]
  split
  · rename_i y hy
    obtain ⟨an, rfl, han, rfl⟩ := lbAt_some hy
    split
    · exact h
    · split
      · exact h
      · exact h.left (by simpa using ha) _
  · exact h
theorem Alike.drop {up : List Nat} {x : Int} {S T : List LB} (h : Alike up x S T) {a : Int} (ha : bel up a x = true) (n : Int) : (dropS T a n).1 = (dropS S a n).1 ∧ Alike up x (dropS S a n).2 (dropS T a n).2 := by
  unfold dropS
  rw [← h.lb ha]
  split
  · exact ⟨rfl, h⟩
  · split
    · exact ⟨rfl, h⟩
    · exact ⟨rfl, h.set _ _⟩
theorem Alike.dropL {up : List Nat} {x : Int} {S T : List LB} (h : Alike up x S T) {a : Int} (ha : bel up a x = false) (n : Int) : Alike up x (dropS S a n).2 T := by
  unfold dropS
  split
  · exact h
  · rename_i y hy
    obtain ⟨an, rfl, han, rfl⟩ := lbAt_some hy
    split
    · exact h
    · exact h.left (by simpa using ha) _
theorem lbAt_set {S : List LB} {an : Nat} (han : an < S.length) (y : LB) : lbAt (S.set an y) (an : Int) = some y := by
  rw [lbAt_nat (by simpa using han)]; simp
/-- What was put in is there. -/
theorem get_put {S : List LB} {a : Int} {s : List UInt8} (h : (putS S a s).1.2 = 0) : getS (putS S a s).2 a (putS S a s).1.1 = some s := by
  rw [putS_eq] at h ⊢
  split at h
  · rename_i y hy
    obtain ⟨an, rfl, han, rfl⟩ := lbAt_some hy
    split at h
    · cases h
    · rename_i h4
      split at h
      · cases h
      · rename_i h8
        rw [if_neg h4, if_neg h8]
        unfold getS
        rw [show ((an : Int)).toNat = an from rfl, lbAt_set han]
        simp [fi]
  · cases h
/-- What was taken out is not there. -/
theorem get_drop {S : List LB} {k : Nat} (h : OkS S k) (a n : Int) : getS (dropS S a n).2 a n = none := by
  unfold dropS
  split
  · rename_i hy
    unfold getS; rw [hy]
  · rename_i y hy
    obtain ⟨an, rfl, han, rfl⟩ := lbAt_some hy
    split
    · rename_i hf
      unfold getS; rw [hy]; simp [hf]
    · rename_i j hj
      obtain ⟨p, hp, hpn⟩ := fi_get hj
      have ho := h _ (List.getElem_mem han)
      have : fi (S[an].l.eraseIdx j) n = none := fi_none fun q hq e => by
        obtain ⟨i, hi, hq2⟩ := List.mem_eraseIdx_iff_getElem?.1 hq
        have hnd := ho.nd
        have hnd := List.pairwise_iff_getElem.1 hnd
        obtain ⟨hil, hiq⟩ := List.getElem?_eq_some_iff.1 hq2
        obtain ⟨hjl, hjp⟩ := List.getElem?_eq_some_iff.1 hp
        rcases Nat.lt_or_gt_of_ne hi with h1 | h1
        · exact hnd i j (by simpa using hil) (by simpa using hjl) h1 (by rw [List.getElem_map, List.getElem_map, hiq, hjp, e, hpn])
        · exact hnd j i (by simpa using hjl) (by simpa using hil) h1 (by rw [List.getElem_map, List.getElem_map, hiq, hjp, e, hpn])
      unfold getS
      rw [show ((an : Int)).toNat = an from rfl, lbAt_set han]
      simp [this]
theorem Alike.seen {up : List Nat} {x : Int} {S T : List LB} (h : Alike up x S T) : seenS T (downs up x up.length) = seenS S (downs up x up.length) := by
  unfold seenS
  have : ∀ L : List Nat, (∀ a ∈ L, bel up a x = true) → L.flatMap (ofL T) = L.flatMap (ofL S) := fun L hL => by
    induction L with
    | nil => rfl
    | cons a L ih =>
      rw [List.flatMap_cons, List.flatMap_cons, ih fun b hb => hL b (List.mem_cons_of_mem _ hb)]
      have : ofL T a = ofL S a := by unfold ofL; rw [h.same a (hL a (List.mem_cons_self ..))]
      rw [this]
  exact this _ fun a ha => (downs_lt up x ha).2
theorem Alike.get {up : List Nat} {x : Int} {S T : List LB} (h : Alike up x S T) {a : Int} (ha : bel up a x = true) (n : Int) : getS T a n = getS S a n := by
  unfold getS; rw [h.lb ha]
theorem seen_get {up : List Nat} {x : Int} {S : List LB} (hS : S.length = up.length) {p : NM} (hp : p ∈ seenS S (downs up x up.length)) : bel up p.1 x = true ∧ ∃ s, getS S p.1 p.2 = some s := by
  unfold seenS at hp
  obtain ⟨a, ha, hpa⟩ := List.mem_flatMap.1 hp
  obtain ⟨h1, h2⟩ := downs_lt up x ha
  unfold ofL at hpa
  split at hpa
  · rename_i y hy
    obtain ⟨t, ht, rfl⟩ := List.mem_map.1 hpa
    have hal := (List.getElem?_eq_some_iff.1 hy)
    obtain ⟨hal, rfl⟩ := hal
    refine ⟨h2, ?_⟩
    unfold getS
    rw [lbAt_nat hal]
    simp only
    cases hf : fi S[a].l t.1 with
    | none => exact absurd rfl (fi_not hf t ht)
    | some k =>
      obtain ⟨q, hq, _⟩ := fi_get hf
      exact ⟨q.2, by simp [hq]⟩
  · cases hpa
theorem bel_self {T : List (List Bool)} (g : GoodT T) {x : Int} (h : isL T.length x = true) : bel (upT T) x x = true := by
  have hl := h
  simp only [isL, Bool.and_eq_true, decide_eq_true_eq] at hl
  obtain ⟨xn, rfl⟩ : ∃ k : Nat, x = k := ⟨x.toNat, by omega⟩
  have := (g.ord xn (by omega)).1
  unfold bel
  rw [upT_len, h]
  simpa using this
theorem Alike.room {T : List (List Bool)} {x : Int} {S U : List LB} (g : GoodT T) (h : Alike (upT T) x S U) : roomS U x = roomS S x := by
  unfold roomS
  cases hx : isL T.length x with
  | true => rw [h.lb (bel_self g hx)]
  | false =>
    have h1 : lbAt S x = none := by unfold lbAt; rw [h.ls, upT_len, hx]; rfl
    have h2 : lbAt U x = none := by unfold lbAt; rw [h.lt, upT_len, hx]; rfl
    rw [h1, h2]
end Go.Proofs.YtjncbipaikmogaaDoor.Bf
namespace Go.Proofs.YtjncbipaikmogaaDoor.Bf
open Go Go.RowKit Am Latt
set_option maxRecDepth 100000
set_option linter.unusedSimpArgs false
set_option linter.unusedVariables false
variable {R : Ro}
theorem lat_off {H : AH} {b l r p q : Nat} {l' : Nat} {C : List AV} {S : List LB} {cs : List AV} {up dn : List Nat} (h : At H b l' r C S cs) (hL : LatIn H l p q up dn) : ∀ i, i = l ∨ i = p ∨ i = q → ¬ Own b r cs i := by
  intro i hi ho
  have hk := h.kind ho
  rcases hi with rfl | rfl | rfl
  · rw [hL.box] at hk; simp at hk
  · rw [hL.pu] at hk; simp at hk
  · rw [hL.qd] at hk; simp at hk
theorem lat_lt {H : AH} {l p q : Nat} {up dn : List Nat} (hL : LatIn H l p q up dn) : ∀ i, i = l ∨ i = p ∨ i = q → i < H.length := by
  rintro i (rfl | rfl | rfl)
  · exact (List.getElem?_eq_some_iff.1 hL.box).1
  · exact (List.getElem?_eq_some_iff.1 hL.pu).1
  · exact (List.getElem?_eq_some_iff.1 hL.qd).1
structure Two (H : AH) (ba bb l p q : Nat) (T : List (List Bool)) (Sa Sb : List LB) (k : Nat) : Prop where
  lat : LatIn H l p q (upT T) (dnT T)
  ats : ∃ ra Ca csa rb Cb csb, At H ba l ra Ca Sa csa ∧ At H bb l rb Cb Sb csb ∧ ∀ j, Own ba ra csa j → ¬ Own bb rb csb j
  oa : OkS Sa k
  ob : OkS Sb k
theorem Two.swap {H : AH} {ba bb l p q : Nat} {T : List (List Bool)} {Sa Sb : List LB} {k : Nat} (h : Two H ba bb l p q T Sa Sb k) : Two H bb ba l p q T Sb Sa k := by
  obtain ⟨h1, ⟨ra, Ca, csa, rb, Cb, csb, hA, hB, hd⟩, h3, h4⟩ := h
  exact ⟨h1, ⟨rb, Cb, csb, ra, Ca, csa, hB, hA, fun j hb ha => hd j ha hb⟩, h4, h3⟩
theorem Two.keeps {H H' : AH} {ba bb l p q : Nat} {T : List (List Bool)} {Sa Sb : List LB} {k : Nat} (h : Two H ba bb l p q T Sa Sb k) (hk : Keeps H H') : Two H' ba bb l p q T Sa Sb k := by
  obtain ⟨h1, ⟨ra, Ca, csa, rb, Cb, csb, hA, hB, hd⟩, h3, h4⟩ := h
  exact ⟨h1.frame fun i hi => hk.2 i (lat_lt h1 i hi), ⟨ra, Ca, csa, rb, Cb, csb, Own.keeps hA hk, Own.keeps hB hk, hd⟩, h3, h4⟩
theorem Two.more {H : AH} {ba bb l p q : Nat} {T : List (List Bool)} {Sa Sb : List LB} {k k' : Nat} (h : Two H ba bb l p q T Sa Sb k) (hk : k ≤ k') : Two H ba bb l p q T Sa Sb k' := ⟨h.lat, h.ats, h.oa.mono hk, h.ob.mono hk⟩
/-- What else lies there stays. -/
def Stays (H H' : AH) : Prop := ∀ (i : Nat) c (t : TypeId), t ≠ 82 → t ≠ 87 → H[i]? = some (.cells c t) → H'[i]? = some (.cells c t)
theorem Stays.refl (H : AH) : Stays H H := fun _ _ _ _ _ h => h
theorem Stays.trans {A B C : AH} (h : Stays A B) (k : Stays B C) : Stays A C := fun i c t h1 h2 h3 => k i c t h1 h2 (h i c t h1 h2 h3)
theorem Keeps.stays {H H' : AH} (h : Keeps H H') : Stays H H' := fun i c t _ _ hc => by rw [h.2 i (List.getElem?_eq_some_iff.1 hc).1]; exact hc
theorem At.stays {H H' : AH} {b l r : Nat} {C : List AV} {S : List LB} {cs cs' : List AV} (h : At H b l r C S cs) (hm : Moved H H' b r cs cs') : Stays H H' := fun i c t h1 h2 hc => by
  rw [hm.2.1 i (List.getElem?_eq_some_iff.1 hc).1 fun ho => ?_]
  · exact hc
  · rcases h.kind ho with ⟨d, e⟩ | ⟨d, e⟩ | ⟨d, e⟩
    · rw [hc] at e; simp at e; exact h1 e.2
    · rw [hc] at e; simp at e; exact h2 e.2
    · rw [hc] at e; cases e
/-- What becomes of both if one is changed. -/
theorem two_moved {H H' : AH} {ba bb l p q ra rb : Nat} {T : List (List Bool)} {Ca Ca' Cb csa csa' csb : List AV} {Sa Sa' Sb : List LB} {k' : Nat} (hl : LatIn H l p q (upT T) (dnT T)) (hA : At H ba l ra Ca Sa csa) (hB : At H bb l rb Cb Sb csb) (hd : ∀ j, Own ba ra csa j → ¬ Own bb rb csb j)
    (hA' : At H' ba l ra Ca' Sa' csa') (hm : Moved H H' ba ra csa csa') (ho : OkS Sa' k') (hb : OkS Sb k') : Two H' ba bb l p q T Sa' Sb k' := by
  refine ⟨hl.frame fun i hi => hm.2.1 i (lat_lt hl i hi) (lat_off hA hl i hi), ⟨ra, Ca', csa', rb, Cb, csb, hA', hB.frame fun i hi => hm.2.1 i (hB.lt hi) fun ha => hd i ha hi, fun j ha hb => ?_⟩, ho, hb⟩
  rcases hm.2.2 j ha with h1 | h1
  · exact hd j h1 hb
  · have := hB.lt hb; omega
theorem Two.put {H : AH} {ba bb l p q : Nat} {T : List (List Bool)} {Sa Sb : List LB} {k : Nat} (h : Two H ba bb l p q T Sa Sb k) (hk : k ≤ 100000) (a : Int) (s : List UInt8) :
    ACalls Tryd.prog R 11 [.ptr (.mu ba) 0, .int .i64 a, .str s] H fun v H' => v = .tuple [.int .i64 (putS Sa a s).1.1, .int .i64 (putS Sa a s).1.2] ∧ Two H' ba bb l p q T (putS Sa a s).2 Sb (k + 1) ∧ Stays H H' := by
  obtain ⟨h1, ⟨ra, Ca, csa, rb, Cb, csb, hA, hB, hd⟩, h3, h4⟩ := h
  refine (put_ok hA a s h3.len fun x hx => ⟨(h3 x hx).g0, by have := (h3 x hx).gk; omega⟩).mono ?_
  rintro v H' ⟨C', cs', rfl, hA', hm⟩
  exact ⟨rfl, two_moved h1 hA hB hd hA' hm (h3.put a s) (h4.mono (by omega)), hA.stays hm⟩
theorem Two.drop {H : AH} {ba bb l p q : Nat} {T : List (List Bool)} {Sa Sb : List LB} {k : Nat} (h : Two H ba bb l p q T Sa Sb k) (a n : Int) :
    ACalls Tryd.prog R 13 [.ptr (.mu ba) 0, .int .i64 a, .int .i64 n] H fun v H' => v = .int .i64 (dropS Sa a n).1 ∧ Two H' ba bb l p q T (dropS Sa a n).2 Sb k ∧ Stays H H' := by
  obtain ⟨h1, ⟨ra, Ca, csa, rb, Cb, csb, hA, hB, hd⟩, h3, h4⟩ := h
  refine (drop_ok hA a n h3.len).mono ?_
  rintro v H' ⟨C', cs', rfl, hA', hm⟩
  exact ⟨rfl, two_moved h1 hA hB hd hA' hm (h3.drop a n) h4, hA.stays hm⟩
theorem Two.get {H : AH} {ba bb l p q : Nat} {T : List (List Bool)} {Sa Sb : List LB} {k : Nat} (h : Two H ba bb l p q T Sa Sb k) (a n : Int) :
    ACalls Tryd.prog R 18 [.ptr (.mu ba) 0, .int .i64 a, .int .i64 n] H fun v H' => v = .tuple [.str ((getS Sa a n).getD []), .bool (getS Sa a n).isSome] ∧ H' = H := by
  obtain ⟨h1, ⟨ra, Ca, csa, rb, Cb, csb, hA, hB, hd⟩, h3, h4⟩ := h
  exact get_ok hA a n h3.len
theorem Two.room {H : AH} {ba bb l p q : Nat} {T : List (List Bool)} {Sa Sb : List LB} {k : Nat} (h : Two H ba bb l p q T Sa Sb k) (a : Int) :
    ACalls Tryd.prog R 20 [.ptr (.mu ba) 0, .int .i64 a] H fun v H' => v = .int .i64 (roomS Sa a) ∧ H' = H := by
  obtain ⟨h1, ⟨ra, Ca, csa, rb, Cb, csb, hA, hB, hd⟩, h3, h4⟩ := h
  exact room_ok hA a h3.len
theorem Two.seen {H : AH} {ba bb l p q : Nat} {T : List (List Bool)} {Sa Sb : List LB} {k : Nat} (h : Two H ba bb l p q T Sa Sb k) (g1 : 1 ≤ T.length) (g2 : T.length ≤ 64) (hS : Sa.length = (upT T).length) (a : Int) :
    ACalls Tryd.prog R 19 [.ptr (.mu ba) 0, .int .i64 a] H fun v H' => RowOwn H H' v (seenS Sa (downs (upT T) a (upT T).length)).length 2 53 (nmsV (seenS Sa (downs (upT T) a (upT T).length))) := by
  obtain ⟨h1, ⟨ra, Ca, csa, rb, Cb, csb, hA, hB, hd⟩, h3, h4⟩ := h
  exact seen_ok hA (h1.at g1 g2) hS a h3.len
theorem Two.below {H : AH} {ba bb l p q : Nat} {T : List (List Bool)} {Sa Sb : List LB} {k : Nat} (h : Two H ba bb l p q T Sa Sb k) (g1 : 1 ≤ T.length) (g2 : T.length ≤ 64) (a b : Int) : ACalls Tryd.prog R 17 [.ptr (.mu l) 0, .int .i64 a, .int .i64 b] H fun v H' => v = .bool (bel (upT T) a b) ∧ H' = H :=
  below_ok (h.lat.at g1 g2) a b
end Go.Proofs.YtjncbipaikmogaaDoor.Bf
