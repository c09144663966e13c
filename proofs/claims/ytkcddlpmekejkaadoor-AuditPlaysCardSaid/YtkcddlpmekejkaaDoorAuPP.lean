/- The program's log and the document's, beside each other. -/
import Derived.Test.YtkcddlpmekejkaaDoorAuTwo
import Derived.Test.YtkcddlpmekejkaaDoorAuRPut
namespace Go.Proofs.YtkcddlpmekejkaaDoor.Au
open Go Go.RowKit Am Latt
set_option maxRecDepth 100000
set_option linter.unusedSimpArgs false
set_option linter.unusedVariables false
variable {R : Ro}
structure PP (H : AH) (g kg w l p q : Nat) (tv : AV) (T : List (List Bool)) (Eg Ew : List Ent) (m : Nat) : Prop where
  lat : LatIn H l p q (upT T) (dnT T)
  ats : ∃ rvg rvw, GAt H g l kg rvg T.length Eg ∧ WAt H w tv rvw Ew ∧ ∀ j, Own g kg rvg j → ¬ OwnW w rvw j
  nes : g ≠ kg
  les : Eg.length ≤ m ∧ Ew.length ≤ m
variable {H : AH} {g kg w l p q m : Nat} {tv : AV} {T : List (List Bool)} {Eg Ew : List Ent}
theorem WAt.off {rv : AV} {E : List Ent} (h : WAt H w tv rv E) {i : Nat} {c : List AV} {t : TypeId} (hi : H[i]? = some (.cells c t)) (h1 : t ≠ 37) : ¬ OwnW w rv i := by
  rintro (rfl | ⟨o, ln, c', e⟩)
  · rw [h.box] at hi; cases hi; exact h1 rfl
  · rcases h.row with ⟨e', _⟩ | ⟨j, e', hj, _⟩
    · rw [e] at e'; cases e'
    · rw [e] at e'; cases e'; rw [hi] at hj; cases hj
theorem PP.keeps {H' : AH} (S : PP H g kg w l p q tv T Eg Ew m) (hk : Keeps H H') : PP H' g kg w l p q tv T Eg Ew m := by
  obtain ⟨rg, rw', a, b, c⟩ := S.ats
  exact ⟨S.lat.frame fun i hi => hk.2 i (lat_lt S.lat i hi), ⟨rg, rw', a.keeps hk, b.keeps hk, c⟩, S.nes, S.les⟩
theorem PP.weak {m' : Nat} (S : PP H g kg w l p q tv T Eg Ew m) (hm : m ≤ m') : PP H g kg w l p q tv T Eg Ew m' := ⟨S.lat, S.ats, S.nes, by have := S.les; omega⟩
theorem PP.putg (S : PP H g kg w l p q tv T Eg Ew m) (g1 : 1 ≤ T.length) (g2 : T.length ≤ 64) (hm : m ≤ 1000) (x : Ent) :
    ACalls Tryd.prog R 12 [.ptr (.mu g) 0, .agg (cellsE x)] H fun v H' => v = .int .i64 (putF (upT T) T.length Eg x) ∧
      ((putF (upT T) T.length Eg x ≠ 0 ∧ PP H' g kg w l p q tv T Eg Ew m) ∨ (putF (upT T) T.length Eg x = 0 ∧ PP H' g kg w l p q tv T (Eg ++ [x]) Ew (m + 1))) := by
  obtain ⟨rg, rw', a, b, c⟩ := S.ats
  refine (put_at a (S.lat.at g1 g2) (upT_len T) (by have := S.les; omega) S.nes x).mono ?_
  rintro v H' ⟨rfl, ⟨hne, hk⟩ | ⟨h0, rv', hG, hlen, hown, hfr⟩⟩
  · exact ⟨rfl, .inl ⟨hne, S.keeps hk⟩⟩
  · refine ⟨rfl, .inr ⟨h0, ?_, ⟨rv', rw', hG, b.frame fun i hi => hfr i (b.lt hi) fun ha => c i ha hi, fun j hj hi => ?_⟩, S.nes, ?_⟩⟩
    · refine S.lat.frame fun i hi => hfr i (lat_lt S.lat i hi) ?_
      rcases hi with rfl | rfl | rfl
      · exact a.off S.lat.box (by decide) (by decide)
      · exact a.off S.lat.pu (by decide) (by decide)
      · exact a.off S.lat.qd (by decide) (by decide)
    · rcases hown j hj with ha | ha
      · exact c j ha hi
      · have := b.lt hi; omega
    · have := S.les
      simp
      omega
theorem PP.putw (S : PP H g kg w l p q tv T Eg Ew m) (ht : ∀ H, TabIn R H tv T) (gd : GoodT T) (hm : m ≤ 1000) (x : Ent) :
    ACalls Tryd.prog R 13 [.ptr (.mu w) 0, .agg (cellsE x)] H fun v H' => v = .int .i64 (putF (upT T) T.length Ew x) ∧
      ((putF (upT T) T.length Ew x ≠ 0 ∧ PP H' g kg w l p q tv T Eg Ew m) ∨ (putF (upT T) T.length Ew x = 0 ∧ PP H' g kg w l p q tv T Eg (Ew ++ [x]) (m + 1))) := by
  obtain ⟨rg, rw', a, b, c⟩ := S.ats
  refine (rput_at b ht gd (by have := S.les; omega) x).mono ?_
  rintro v H' ⟨rfl, ⟨hne, hk⟩ | ⟨h0, rv', hG, hlen, hown, hfr⟩⟩
  · exact ⟨rfl, .inl ⟨hne, S.keeps hk⟩⟩
  · refine ⟨rfl, .inr ⟨h0, ?_, ⟨rg, rv', a.frame fun i hi => hfr i (a.lt hi) fun hb => c i hi hb, hG, fun j hj hi => ?_⟩, S.nes, ?_⟩⟩
    · refine S.lat.frame fun i hi => hfr i (lat_lt S.lat i hi) ?_
      rcases hi with rfl | rfl | rfl
      · exact b.off S.lat.box (by decide)
      · exact b.off S.lat.pu (by decide)
      · exact b.off S.lat.qd (by decide)
    · rcases hown j hi with hb | hb
      · exact c j hj hb
      · have := a.lt hj; omega
    · have := S.les
      simp
      omega
theorem PP.len (S : PP H g kg w l p q tv T Eg Ew m) : ACalls Tryd.prog R 16 [.ptr (.mu g) 0] H fun v H' => v = .int .i64 Eg.length ∧ H' = H := by
  obtain ⟨rg, rw', a, b, c⟩ := S.ats
  exact len_at a
theorem PP.roomg (S : PP H g kg w l p q tv T Eg Ew m) (hm : m ≤ 1000) (x : Int) : ACalls Tryd.prog R 14 [.ptr (.mu g) 0, .int .i64 x] H fun v H' => v = .int .i64 (roomF T.length Eg x) ∧ H' = H := by
  obtain ⟨rg, rw', a, b, c⟩ := S.ats
  exact room_at a (by have := S.les; omega) x
theorem PP.roomw (S : PP H g kg w l p q tv T Eg Ew m) (ht : ∀ H, TabIn R H tv T) (hm : m ≤ 1000) (x : Int) : ACalls Tryd.prog R 15 [.ptr (.mu w) 0, .int .i64 x] H fun v H' => v = .int .i64 (roomF T.length Ew x) ∧ H' = H := by
  obtain ⟨rg, rw', a, b, c⟩ := S.ats
  exact rroom_at b (ht _) (by have := S.les; omega) x
theorem PP.at (S : PP H g kg w l p q tv T Eg Ew m) (i : Int) : ACalls Tryd.prog R 17 [.ptr (.mu g) 0, .int .i64 i] H fun v H' => H' = H ∧ v = match (if 0 ≤ i then Eg[i.toNat]? else none) with | some x => .tuple [.agg (cellsE x), .bool true] | none => .tuple [.agg [.int .i64 0, .int .i64 0, .int .i64 0, .str []], .bool false] := by
  obtain ⟨rg, rw', a, b, c⟩ := S.ats
  exact at_at a i
theorem PP.atY (S : PP H g kg w l p q tv T Eg Ew m) {i : Nat} {x : Ent} (hx : Eg[i]? = some x) : ACalls Tryd.prog R 17 [.ptr (.mu g) 0, .int .i64 (i : Int)] H fun v H' => H' = H ∧ v = .tuple [.agg (cellsE x), .bool true] := by
  refine (S.at i).mono ?_
  rintro v H' ⟨rfl, rfl⟩
  refine ⟨rfl, ?_⟩
  rw [if_pos (by omega), show ((i : Int)).toNat = i by omega, hx]
theorem PP.atN (S : PP H g kg w l p q tv T Eg Ew m) {i : Int} (hx : i < 0 ∨ Eg.length ≤ i) : ACalls Tryd.prog R 17 [.ptr (.mu g) 0, .int .i64 i] H fun v H' => H' = H ∧ v = .tuple [.agg (cellsE (0, 0, 0, [])), .bool false] := by
  refine (S.at i).mono ?_
  rintro v H' ⟨rfl, rfl⟩
  refine ⟨rfl, ?_⟩
  by_cases h0 : 0 ≤ i
  · rw [if_pos h0, show Eg[i.toNat]? = none from by rw [List.getElem?_eq_none_iff]; omega]; rfl
  · rw [if_neg h0]; rfl
theorem PP.seen (S : PP H g kg w l p q tv T Eg Ew m) (g1 : 1 ≤ T.length) (g2 : T.length ≤ 64) (hm : m ≤ 1000) (x : Int) : ACalls Tryd.prog R 19 [.ptr (.mu g) 0, .int .i64 x] H fun v H' => RowOwn H H' v (seenF (upT T) Eg x).length 4 40 (flat (seenF (upT T) Eg x)) := by
  obtain ⟨rg, rw', a, b, c⟩ := S.ats
  exact seen_at a (S.lat.at g1 g2) (by have := S.les; omega) x
theorem PP.seenw (S : PP H g kg w l p q tv T Eg Ew m) (ht : ∀ H, TabIn R H tv T) (gd : GoodT T) (hm : m ≤ 1000) (x : Int) : ACalls Tryd.prog R 20 [.ptr (.mu w) 0, .int .i64 x] H fun v H' => RowOwn H H' v (seenF (upT T) Ew x).length 4 42 (flat (seenF (upT T) Ew x)) := by
  obtain ⟨rg, rw', a, b, c⟩ := S.ats
  exact rseen_at b ht gd.rows (by have := S.les; omega) x
theorem PP.logw (S : PP H g kg w l p q tv T Eg Ew m) : ∃ rvw, WAt H w tv rvw Ew := by
  obtain ⟨rg, rw', a, b, c⟩ := S.ats
  exact ⟨_, b⟩
end Go.Proofs.YtkcddlpmekejkaaDoor.Au
