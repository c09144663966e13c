/- Of how many keys something was taken. -/
import Derived.Test.YtklnhappoldlnaaHeap
namespace Go.Proofs.Ytklnhappoldlnaa.Heap
open Go Go.RowKit Am
set_option maxRecDepth 100000
set_option linter.unusedSimpArgs false
set_option linter.unusedVariables false
variable {R : Ro}
/-- A quota, with its keys. -/
def QK (H : AH) (q : Nat) (most : Int) (f : List UInt8 → Int) (own : List Nat) (ks : List (List UInt8)) : Prop := ∃ im cs ns, Quo H q most im ks cs ns ∧ f = look ks ns ∧ own = q :: im :: cs
theorem QK.toQ {H : AH} {q : Nat} {most : Int} {f : List UInt8 → Int} {own : List Nat} {ks : List (List UInt8)} (h : QK H q most f own ks) : Q H q most f own := by
  obtain ⟨im, cs, ns, h⟩ := h
  exact ⟨im, ks, cs, ns, h⟩
theorem QK.frame {H H' : AH} {q : Nat} {most : Int} {f : List UInt8 → Int} {own : List Nat} {ks : List (List UInt8)} (h : QK H q most f own ks) (hf : ∀ i ∈ own, H'[i]? = H[i]?) : QK H' q most f own ks := by
  obtain ⟨im, cs, ns, hq, rfl, rfl⟩ := h
  obtain ⟨es, ck, m1, m2, m3⟩ := hq.map
  refine ⟨im, cs, ns, ⟨?_, ⟨es, ck, ?_, m2, m3⟩, hq.lc, hq.ln, fun j c n hc hn => ?_, hq.own, hq.lo, hq.hi, hq.bnd⟩, rfl, rfl⟩
  · rw [hf q (by simp)]; exact hq.box
  · rw [hf im (by simp)]; exact m1
  · rw [hf c (by simp [List.mem_of_getElem? hc])]; exact hq.cnt j c n hc hn
def KS (ks : List (List UInt8)) (k : List UInt8) (n m : Int) (ks' : List (List UInt8)) : Prop := (0 < n ∧ n ≤ m ∧ k ∉ ks ∧ ks' = ks ++ [k]) ∨ (¬ (0 < n ∧ n ≤ m ∧ k ∉ ks) ∧ ks' = ks)
theorem placeOf_none {k : List UInt8} : ∀ {ks : List (List UInt8)}, placeOf k ks = none → k ∉ ks
  | [], _, h => by cases h
  | t :: ts, h, hm => by
    simp only [placeOf] at h
    split at h
    · cases h
    · rename_i hne
      rcases List.mem_cons.1 hm with e | hm
      · exact hne e.symm
      · exact placeOf_none (Option.map_eq_none_iff.1 h) hm
theorem keys_ok (H : AH) (q : Nat) (most : Int) (f : List UInt8 → Int) (own : List Nat) (ks : List (List UInt8)) (h : QK H q most f own ks) : ACalls Try.prog R 20 [.ptr (.mu q) 0] H fun v H' => v = .int .i64 ks.length ∧ H' = H := by
  obtain ⟨im, cs, ns, hq, rfl, rfl⟩ := h
  obtain ⟨es, ck, m1, m2, m3⟩ := hq.map
  have hes : es.length = ks.length := by have := congrArg List.length m2; simpa using this
  refine ACalls.of_wpE Fns.ok20 (by simp [Fns.a20]) ?_
  simp [Fns.a20, hq.box, m1, hes]
theorem tickK_ok (H : AH) (q : Nat) (most : Int) (f : List UInt8 → Int) (own : List Nat) (ks : List (List UInt8)) (h : QK H q most f own ks) : ACalls Try.prog R 17 [.ptr (.mu q) 0] H fun v H' => ∃ own', QK H' q most (fun _ => 0) own' [] ∧ Own own own' H H' := by
  obtain ⟨im, cs, ns, hq, rfl, rfl⟩ := h
  obtain ⟨es, ck, m1, m2, m3⟩ := hq.map
  have hbox := hq.box
  have hne : im ≠ q := by have := hq.own; simp at this; exact fun e => this.1.1 e.symm
  refine ACalls.of_wpE Fns.ok17 (by simp [Fns.a17]) ?_
  simp [Fns.a17, hbox, m1]
  refine ⟨[q, im], ⟨im, [], [], ⟨?_, ⟨[], ck, ?_, rfl, rfl⟩, rfl, rfl, by simp, ?_, hq.lo, hq.hi, by simp⟩, ?_, rfl⟩, by simp, ?_, ?_⟩
  · rw [List.getElem?_set, if_neg hne]; exact hbox
  · rw [List.getElem?_set, if_pos rfl, if_pos (List.getElem?_eq_some_iff.1 m1).1]
  · simp [Ne.symm hne]
  · funext k; rfl
  · intro i hi; left; simp at hi; rcases hi with rfl | rfl <;> simp
  · intro i _ hi
    rw [List.getElem?_set, if_neg (by rintro rfl; simp at hi)]
theorem takeK_ok (H : AH) (q : Nat) (most : Int) (f : List UInt8 → Int) (own : List Nat) (ks : List (List UInt8)) (h : QK H q most f own ks) (k : List UInt8) (n : Int) : ACalls Try.prog R 15 [.ptr (.mu q) 0, .str k, .int .i64 n] H fun v H' =>
    v = .bool (decide (0 ≤ n ∧ n ≤ most - f k)) ∧ ∃ own' ks', QK H' q most (if 0 ≤ n ∧ n ≤ most - f k then upd f k n else f) own' ks' ∧ Own own own' H H' ∧ KS ks k n (most - f k) ks' := by
  have hb := h.toQ.bnd k
  have hleft := left_ok (R := R) H q most f own h.toQ k
  refine ACalls.of_wpE Fns.ok15 (by simp [Fns.a15]) ?_
  by_cases h1 : n < 0
  · have h1' : ¬ (0 ≤ n) := by omega
    simp [Fns.a15, h1, h1']
    exact ⟨own, ks, h, Own.refl _ _, .inr ⟨by omega, rfl⟩⟩
  have h1' : 0 ≤ n := by omega
  simp [Fns.a15, h1]
  refine hleft.mono ?_
  rintro v H' ⟨rfl, rfl⟩
  by_cases h2 : most - f k < n
  · have h2' : ¬ (n ≤ most - f k) := by omega
    simp [h2, h2']
    exact ⟨own, ks, h, Own.refl _ _, .inr ⟨by omega, rfl⟩⟩
  have h2' : n ≤ most - f k := by omega
  by_cases h3 : 0 < n
  · obtain ⟨im, cs, ns, hq, rfl, rfl⟩ := h
    obtain ⟨es, ck, m1, m2, m3⟩ := hq.map
    have hbox := hq.box
    have hlo := hq.lo
    have hhi := hq.hi
    have hown := hq.own
    have hfind := findEv_str (P := Try.prog) Try.underlying9 k es ks m2
    have himl := (List.getElem?_eq_some_iff.1 m1).1
    have hql := (List.getElem?_eq_some_iff.1 hbox).1
    have hqim : q ≠ im := by simp at hown; exact hown.1.1
    cases hp : placeOf k ks with
    | some j =>
      rw [hp] at hfind
      have hk := placeOf_some hp
      have hjlt := (List.getElem?_eq_some_iff.1 hk).1
      obtain ⟨c0, hcj⟩ : ∃ c, cs[j]? = some c := ⟨_, List.getElem?_eq_getElem (by rw [hq.lc]; exact hjlt)⟩
      obtain ⟨m0, hnj⟩ : ∃ m, ns[j]? = some m := ⟨_, List.getElem?_eq_getElem (by rw [hq.ln]; exact hjlt)⟩
      obtain ⟨e, he, hv⟩ := entry_at m3 hcj
      have hcell := hq.cnt j _ _ hcj hnj
      have hl : look ks ns k = m0 := by simp [look, hp, hnj]
      rw [hl] at hb h2 h2'
      simp [h2, h3, hbox, m1, hfind, he, hv, hl, h1', h2']
      refine (add_ok _ _ _ _ hcell (by omega) (by omega)).mono ?_
      rintro v H' rfl
      simp
      have hcl := (List.getElem?_eq_some_iff.1 hcell).1
      have hcm : c0 ∈ cs := List.mem_of_getElem? hcj
      have hcq : c0 ≠ q := by intro e0; simp at hown; exact hown.1.2 (e0 ▸ hcm)
      have hci : c0 ≠ im := by intro e0; simp at hown; exact hown.2.1 (e0 ▸ hcm)
      refine ⟨q :: im :: cs, ks, ⟨im, cs, ns.set j (m0 + n), ⟨?_, ⟨es, ck, ?_, m2, m3⟩, hq.lc, by simp [hq.ln], ?_, hown, hlo, hhi, ?_⟩, ?_, rfl⟩, ⟨by simp, fun i hi => .inl hi, ?_⟩, .inr ⟨fun hh => hh.2.2 (List.mem_of_getElem? hk), rfl⟩⟩
      · rw [List.getElem?_set, if_neg hcq]; exact hbox
      · rw [List.getElem?_set, if_neg hci]; exact m1
      · intro i c m hc hm
        by_cases hij : i = j
        · subst hij
          rw [hcj] at hc; cases hc
          simp [hq.ln, hjlt] at hm
          subst hm
          simp [hcl]
        · have hne : c0 ≠ c := by
            intro e0
            have hnd : cs.Nodup := by simp at hown; exact hown.2.2
            obtain ⟨hil, hic⟩ := List.getElem?_eq_some_iff.1 hc
            exact hij ((List.getElem?_inj hil hnd).1 (by rw [hc, hcj, e0]))
          rw [List.getElem?_set_ne (Ne.symm hij)] at hm
          rw [List.getElem?_set, if_neg hne]
          exact hq.cnt i c m hc hm
      · intro m hm
        rcases List.mem_or_eq_of_mem_set hm with hm | rfl
        · exact hq.bnd m hm
        · omega
      · funext k'
        unfold upd look
        by_cases hkk : k' = k
        · subst hkk; simp [hp, hq.ln, hjlt, hnj, (List.getElem?_eq_some_iff.1 hnj).2]
        · simp only [if_neg hkk]
          cases hp' : placeOf k' ks with
          | none => rfl
          | some j' =>
            have hjj : j' ≠ j := by
              rintro rfl
              have := placeOf_some hp'
              rw [hk] at this; cases this; exact hkk rfl
            simp [List.getElem?_set_ne (Ne.symm hjj)]
      · intro i _ hi
        rw [List.getElem?_set, if_neg (by rintro rfl; exact hi (by simp [hcm]))]
    | none =>
      rw [hp] at hfind
      have hl : look ks ns k = 0 := by simp [look, hp]
      rw [hl] at hb h2 h2'
      have hes : es.length = ks.length := by have := congrArg List.length m2; simpa using this
      have m2' : (es ++ [(⟨.str k, .ptr (.mu H'.length) 0, ck⟩ : AEntry)]).map (·.key) = (ks ++ [k]).map AV.str := by simp [m2]
      have hfind' := findEv_str (P := Try.prog) Try.underlying9 k _ _ m2'
      rw [placeOf_append, hp] at hfind'
      simp at hfind'
      have hqn : (H' ++ [AO.cells [.int .i64 0] 62])[q]? = some (.cells [.int .i64 most, .map im] 51) := by rw [List.getElem?_append_left hql]; exact hbox
      have himn : (H' ++ [AO.cells [.int .i64 0] 62])[im]? = some (.map es ck) := by rw [List.getElem?_append_left himl]; exact m1
      have him1 : im ≠ H'.length := by omega
      have hq1 : q ≠ H'.length := by omega
      have h2a : ¬ most < n := by omega
      have h2b : n ≤ most := by omega
      simp only [Int.sub_zero] at h2 h2'
      have hqs : ((H' ++ [AO.cells [.int .i64 0] 62]).set im (.map (es ++ [⟨.str k, .ptr (.mu H'.length) 0, ck⟩]) (ck + 1)))[q]? = some (.cells [.int .i64 most, .map im] 51) := by
        rw [List.getElem?_set, if_neg (Ne.symm hqim)]; exact hqn
      have hims : ((H' ++ [AO.cells [.int .i64 0] 62]).set im (.map (es ++ [⟨.str k, .ptr (.mu H'.length) 0, ck⟩]) (ck + 1)))[im]? = some (.map (es ++ [⟨.str k, .ptr (.mu H'.length) 0, ck⟩]) (ck + 1)) := by
        rw [List.getElem?_set, if_pos rfl, if_pos (by simp; omega)]
      have hcs : ((H' ++ [AO.cells [.int .i64 0] 62]).set im (.map (es ++ [⟨.str k, .ptr (.mu H'.length) 0, ck⟩]) (ck + 1)))[H'.length]? = some (.cells [.int .i64 0] 62) := by
        rw [List.getElem?_set, if_neg him1]; simp
      have hent : (es ++ [(⟨.str k, .ptr (.mu H'.length) 0, ck⟩ : AEntry)])[ks.length]? = some ⟨.str k, .ptr (.mu H'.length) 0, ck⟩ := by
        rw [← hes]; simp
      simp [h2a, h3, hbox, m1, hfind, hl, h1', h2b, fillA, hqn, himn, hqs, hims, hcs, hfind', hent]
      refine (add_ok _ _ _ _ hcs (by omega) (by omega)).mono ?_
      rintro v H2 rfl
      simp only [Int.zero_add]
      have hclt : ∀ c ∈ cs, c < H'.length := by
        intro c hc
        obtain ⟨j, hj, rfl⟩ := List.mem_iff_getElem.1 hc
        obtain ⟨m, hm⟩ : ∃ m, ns[j]? = some m := ⟨_, List.getElem?_eq_getElem (by rw [hq.ln, ← hq.lc]; exact hj)⟩
        exact (List.getElem?_eq_some_iff.1 (hq.cnt j _ m (List.getElem?_eq_getElem hj) hm)).1
      have hget : ∀ i, i < H'.length → i ≠ im → (((H' ++ [AO.cells [.int .i64 0] 62]).set im (.map (es ++ [⟨.str k, .ptr (.mu H'.length) 0, ck⟩]) (ck + 1))).set H'.length (.cells [.int .i64 n] 62))[i]? = H'[i]? := by
        intro i hi hne
        rw [List.getElem?_set, if_neg (by omega), List.getElem?_set, if_neg (Ne.symm hne), List.getElem?_append_left hi]
      simp
      refine ⟨q :: im :: (cs ++ [H'.length]), ks ++ [k], ⟨im, cs ++ [H'.length], ns ++ [n], ⟨?_, ⟨_, ck + 1, ?_, m2', ?_⟩, by simp [hq.lc], by simp [hq.ln], ?_, ?_, hlo, hhi, ?_⟩, ?_, rfl⟩, ⟨?_, ?_, ?_⟩, .inl ⟨h3, by omega, placeOf_none hp, rfl⟩⟩
      · rw [hget q hql hqim]; exact hbox
      · rw [List.getElem?_set, if_neg (Ne.symm him1)]; exact hims
      · simp [m3]
      · intro j c m hc hm
        by_cases hj : j < cs.length
        · rw [List.getElem?_append_left hj] at hc
          rw [List.getElem?_append_left (by rw [hq.ln, ← hq.lc]; exact hj)] at hm
          have hcm := List.mem_of_getElem? hc
          rw [hget c (hclt c hcm) (by rintro rfl; simp at hown; exact hown.2.1 hcm)]
          exact hq.cnt j c m hc hm
        · have hj2 : j = cs.length := by
            have := (List.getElem?_eq_some_iff.1 hc).1
            simp at this; omega
          subst hj2
          simp at hc
          rw [hq.lc, ← hq.ln] at hm
          simp at hm
          subst hc; subst hm
          rw [List.getElem?_set, if_pos rfl, if_pos (by simp)]
      · simp at hown ⊢
        refine ⟨⟨hown.1.1, hown.1.2, hq1⟩, ⟨hown.2.1, him1⟩, ?_⟩
        rw [List.nodup_append]
        refine ⟨hown.2.2, by simp, ?_⟩
        intro a ha b hb'
        simp at hb'
        have := hclt a ha
        omega
      · intro m hm
        rcases List.mem_append.1 hm with hm | hm
        · exact hq.bnd m hm
        · simp at hm; omega
      · funext k'
        unfold upd look
        rw [placeOf_append]
        by_cases hkk : k' = k
        · subst hkk
          simp [hp, ← hq.ln]
        · have hkk' : ¬ k = k' := fun e => hkk e.symm
          simp only [if_neg hkk]
          cases hp' : placeOf k' ks with
          | none => simp [hkk']
          | some j' =>
            have hj' : j' < ns.length := by rw [hq.ln]; exact (List.getElem?_eq_some_iff.1 (placeOf_some hp')).1
            simp [List.getElem?_append_left hj']
      · simp
      · intro i hi
        simp at hi
        rcases hi with rfl | rfl | hi | rfl
        · left; simp
        · left; simp
        · left; simp [hi]
        · right; exact Nat.le_refl _
      · intro i hi hno
        exact hget i hi (by rintro rfl; simp at hno)
  · have h0 : n = 0 := by omega
    subst h0
    have : upd f k 0 = f := by
      funext k'
      unfold upd
      split
      · rename_i e; rw [e]; simp
      · rfl
    simp [h2, h3, h2', this]
    exact ⟨by omega, own, ks, h, Own.refl _ _, .inr ⟨by omega, rfl⟩⟩
end Go.Proofs.Ytklnhappoldlnaa.Heap
