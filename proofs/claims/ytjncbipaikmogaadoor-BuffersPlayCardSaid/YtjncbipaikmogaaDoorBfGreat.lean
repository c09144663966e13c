/- The program's buffers are the document's: in plain words. -/
import Derived.Test.YtjncbipaikmogaaDoorBfRSeen
import Derived.Test.YtjncbipaikmogaaDoorBfTwo
import Derived.Test.YtjncbipaikmogaaDoorAmSl
namespace Go.Proofs.YtjncbipaikmogaaDoor.Bf
open Go Go.RowKit Am Latt
set_option linter.unusedSimpArgs false
set_option linter.unusedVariables false
def ab (W : List TT) (a : Int) : LB := ⟨((W.filter (live a)).reverse).map fun t => (t.n, t.s), (cntW W a : Nat)⟩
def absL (n : Nat) (W : List TT) : List LB := (List.range n).map fun (a : Nat) => ab W a
theorem absL_len (n : Nat) (W : List TT) : (absL n W).length = n := by simp [absL]
theorem absL_get (n : Nat) (W : List TT) (b : Nat) : (absL n W)[b]? = if b < n then some (ab W b) else none := by
  unfold absL
  rw [List.getElem?_map]
  by_cases h : b < n
  · rw [if_pos h, List.getElem?_range h]; rfl
  · rw [if_neg h, List.getElem?_eq_none (by simpa using h)]; rfl
theorem absL_lb (n : Nat) (W : List TT) (a : Int) : lbAt (absL n W) a = if isL n a then some (ab W a) else none := by
  unfold lbAt
  rw [absL_len]
  split
  · rename_i h
    simp only [isL, Bool.and_eq_true, decide_eq_true_eq] at h
    rw [absL_get, if_pos (by omega), Int.toNat_of_nonneg h.1]
  · rfl
theorem absL_nil (n : Nat) : absL n [] = S0 n := by
  apply List.ext_getElem?
  intro b
  rw [absL_get]
  unfold S0
  rw [List.getElem?_replicate]
  rfl
def Valid (n : Nat) (W : List TT) : Prop := ∀ t ∈ W, isL n t.lb = true
theorem nd_eq : ∀ {l : List TX}, (l.map Prod.fst).Nodup → ∀ p ∈ l, ∀ q ∈ l, p.1 = q.1 → p = q
  | [], _, p, hp, _, _, _ => by cases hp
  | x :: l, h, p, hp, q, hq, e => by
    rw [List.map_cons, List.nodup_cons] at h
    rcases List.mem_cons.1 hp with e1 | hp'
    · rcases List.mem_cons.1 hq with e2 | hq'
      · rw [e1, e2]
      · exact absurd (List.mem_map.2 ⟨q, hq', by rw [← e, e1]⟩) h.1
    · rcases List.mem_cons.1 hq with e2 | hq'
      · exact absurd (List.mem_map.2 ⟨p, hp', by rw [e, e2]⟩) h.1
      · exact nd_eq h.2 p hp' q hq' e
theorem mem_ab {W : List TT} {a : Int} {p : TX} : p ∈ (ab W a).l ↔ ∃ t ∈ W, live a t = true ∧ (t.n, t.s) = p := by
  unfold ab
  simp only [List.mem_map, List.mem_reverse, List.mem_filter]
  exact ⟨fun ⟨t, ⟨h1, h2⟩, h3⟩ => ⟨t, h1, h2, h3⟩, fun ⟨t, h1, h2, h3⟩ => ⟨t, ⟨h1, h2⟩, h3⟩⟩
theorem hit_live {a n : Int} {t : TT} : hit a n t = true ↔ live a t = true ∧ t.n = n := by
  unfold hit live
  simp only [Bool.and_eq_true, decide_eq_true_eq]
  exact ⟨fun ⟨h1, h2, h3⟩ => ⟨⟨h1, h3⟩, h2⟩, fun ⟨⟨h1, h3⟩, h2⟩ => ⟨h1, h2, h3⟩⟩
theorem fi_ab {W : List TT} {a m : Int} : (fi (ab W a).l m = none ↔ fw W a m = none) := by
  constructor
  · intro h
    cases hf : fw W a m with
    | none => rfl
    | some k =>
      obtain ⟨t, ht, hh⟩ := fw_get hf
      rw [hit_live] at hh
      exact absurd hh.2 (fi_not h (t.n, t.s) (mem_ab.2 ⟨t, List.mem_of_getElem? ht, hh.1, rfl⟩))
  · intro h
    refine fi_none fun p hp e => ?_
    obtain ⟨t, ht, hl, rfl⟩ := mem_ab.1 hp
    have := fw_not h t ht
    rw [hit_live.2 ⟨hl, e⟩] at this
    cases this
theorem get_eq {n : Nat} {W : List TT} {k : Nat} (ho : OkS (absL n W) k) (hv : Valid n W) (a m : Int) : getS (absL n W) a m = getW W a m := by
  unfold getS getW
  rw [absL_lb]
  cases ha : isL n a with
  | false =>
    have : fw W a m = none := fw_none fun j hj t ht => by
      cases hh : hit a m t with
      | false => rfl
      | true =>
        rw [hit_live] at hh
        have h1 := hv t (List.mem_of_getElem? ht)
        have h2 := hh.1
        unfold live at h2
        simp only [Bool.and_eq_true, decide_eq_true_eq] at h2
        rw [h2.1, ha] at h1; cases h1
    rw [this]; rfl
  | true =>
    have hnd : ((ab W a).l.map Prod.fst).Nodup := by
      have hl := ha
      simp only [isL, Bool.and_eq_true, decide_eq_true_eq] at hl
      have hm : ab W a ∈ absL n W := by
        refine List.mem_of_getElem? (i := a.toNat) ?_
        rw [absL_get, if_pos (by omega), Int.toNat_of_nonneg hl.1]
      exact (ho _ hm).nd
    simp only [if_true]
    cases hf : fi (ab W a).l m with
    | none => rw [fi_ab.1 hf]
    | some j =>
      cases hg : fw W a m with
      | none => rw [fi_ab.2 hg] at hf; cases hf
      | some q =>
        obtain ⟨p, hp, hpm⟩ := fi_get hf
        obtain ⟨t, ht, hh⟩ := fw_get hg
        rw [hit_live] at hh
        have := nd_eq hnd p (List.mem_of_getElem? hp) (t.n, t.s) (mem_ab.2 ⟨t, List.mem_of_getElem? ht, hh.1, rfl⟩) (by rw [hpm, hh.2])
        subst this
        simp only
        rw [hp, ht]; rfl
theorem room_eq (n : Nat) (W : List TT) (a : Int) : roomS (absL n W) a = roomW n W a := by
  unfold roomS roomW
  rw [absL_lb]
  cases isL n a with
  | false => rfl
  | true => simp [ab]
theorem put_eq {n : Nat} (W : List TT) (a : Int) (s : List UInt8) : putS (absL n W) a s = ((putW n W a s).1, absL n (putW n W a s).2) := by
  rw [putS_eq, absL_lb]
  unfold putW
  cases ha : isL n a with
  | false => rfl
  | true =>
    have hl := ha
    simp only [isL, Bool.and_eq_true, decide_eq_true_eq] at hl
    simp only [if_true]
    by_cases h4 : 4096 < s.length
    · rw [if_pos h4, if_pos h4]
    rw [if_neg h4, if_neg h4]
    have h8 : (ab W a).l.length = 8 ↔ roomW n W a = 0 := by
      unfold roomW ab
      rw [ha]
      simp only [List.length_map, List.length_reverse, if_true]
      omega
    by_cases hr : roomW n W a = 0
    · rw [if_pos hr, if_pos (h8.2 hr)]
    · rw [if_neg hr, if_neg fun h => hr (h8.1 h)]
      congr 1
      apply List.ext_getElem?
      intro b
      rw [List.getElem?_set, absL_len, absL_get, absL_get]
      by_cases hb : a.toNat = b
      · subst hb
        rw [if_pos rfl, if_pos (by omega), if_pos (by omega), Int.toNat_of_nonneg hl.1]
        have hlv : live a ⟨a, (cntW W a : Nat), s, false⟩ = true := by simp [live]
        unfold ab cntW
        rw [List.filter_append, List.filter_append]
        simp [live]
      · rw [if_neg hb]
        by_cases hbn : b < n
        · rw [if_pos hbn, if_pos hbn]
          have hne : ¬ a = (b : Int) := by omega
          unfold ab cntW
          rw [List.filter_append, List.filter_append]
          simp [live, hne]
        · rw [if_neg hbn, if_neg hbn]
theorem put_valid {n : Nat} {W : List TT} (h : Valid n W) (a : Int) (s : List UInt8) : Valid n (putW n W a s).2 := by
  unfold putW
  cases ha : isL n a with
  | false => exact h
  | true =>
    simp only [if_true]
    split
    · exact h
    · split
      · exact h
      · intro t ht
        rcases List.mem_append.1 ht with ht | ht
        · exact h t ht
        · simp only [List.mem_singleton] at ht
          subst ht; exact ha
theorem put_lenW (n : Nat) (W : List TT) (a : Int) (s : List UInt8) : (putW n W a s).2.length ≤ W.length + 1 := by
  unfold putW
  split
  · split
    · simp
    · split <;> simp
  · simp
theorem erase_filter : ∀ {l : List TX} {j : Nat} {p : TX}, l[j]? = some p → (l.map Prod.fst).Nodup → l.eraseIdx j = l.filter fun q => decide (q.1 ≠ p.1)
  | [], j, p, h, _ => by simp at h
  | x :: l, 0, p, h, hn => by
    simp at h; subst h
    rw [List.map_cons, List.nodup_cons] at hn
    rw [List.eraseIdx_cons_zero, List.filter_cons, if_neg (by simp)]
    rw [List.filter_eq_self.2 fun q hq => ?_]
    simp only [decide_eq_true_eq]
    exact fun e => hn.1 (List.mem_map.2 ⟨q, hq, e⟩)
  | x :: l, j + 1, p, h, hn => by
    have h' : l[j]? = some p := by simpa using h
    rw [List.map_cons, List.nodup_cons] at hn
    have hx : x.1 ≠ p.1 := fun e => hn.1 (List.mem_map.2 ⟨p, List.mem_of_getElem? h', e.symm⟩)
    rw [List.eraseIdx_cons_succ, List.filter_cons, if_pos (by simpa using hx), erase_filter h' hn.2]
theorem filter_kill : ∀ {W : List TT} {k : Nat} {t : TT} {a : Int}, W[k]? = some t → live a t = true → ((W.filter (live a)).map TT.n).Nodup → (W.set k { t with gone := true }).filter (live a) = (W.filter (live a)).filter fun u => decide (u.n ≠ t.n)
  | [], k, t, a, h, _, _ => by simp at h
  | u :: W, 0, t, a, h, hl, hn => by
    simp at h; subst h
    have hd : live a { u with gone := true } = false := by simp [live]
    rw [List.filter_cons, if_pos hl, List.map_cons, List.nodup_cons] at hn
    rw [List.set_cons_zero, List.filter_cons, hd, if_neg (by simp), List.filter_cons, if_pos hl, List.filter_cons, if_neg (by simp)]
    have hself : (W.filter (live a)).filter (fun v => decide (v.n ≠ u.n)) = W.filter (live a) := List.filter_eq_self.2 fun q hq => decide_eq_true fun e => hn.1 (List.mem_map.2 ⟨q, hq, e⟩)
    rw [hself]
  | u :: W, k + 1, t, a, h, hl, hn => by
    have h' : W[k]? = some t := by simpa using h
    rw [List.set_cons_succ, List.filter_cons, List.filter_cons]
    cases hu : live a u with
    | false =>
      rw [List.filter_cons, hu, if_neg (by simp)] at hn
      rw [if_neg (by simp), if_neg (by simp), filter_kill h' hl hn]
    | true =>
      rw [List.filter_cons, hu, if_pos rfl, List.map_cons, List.nodup_cons] at hn
      have hne : u.n ≠ t.n := fun e => hn.1 (List.mem_map.2 ⟨t, List.mem_filter.2 ⟨List.mem_of_getElem? h', hl⟩, e.symm⟩)
      rw [if_pos rfl, if_pos rfl, List.filter_cons, if_pos (by simpa using hne), filter_kill h' hl hn.2]
theorem filter_set_same : ∀ {W : List TT} {k : Nat} {t t' : TT} {p : TT → Bool}, W[k]? = some t → p t = false → p t' = false → (W.set k t').filter p = W.filter p
  | [], k, t, t', p, h, _, _ => by simp at h
  | u :: W, 0, t, t', p, h, h1, h2 => by
    simp at h; subst h
    rw [List.set_cons_zero, List.filter_cons, List.filter_cons, h1, h2]; simp
  | u :: W, k + 1, t, t', p, h, h1, h2 => by
    rw [List.set_cons_succ, List.filter_cons, List.filter_cons, filter_set_same (by simpa using h) h1 h2]
theorem cnt_set : ∀ {W : List TT} {k : Nat} {t : TT} (a : Int), W[k]? = some t → cntW (W.set k { t with gone := true }) a = cntW W a
  | [], k, t, a, h => by simp at h
  | u :: W, 0, t, a, h => by
    simp at h; subst h
    unfold cntW
    rw [List.set_cons_zero, List.filter_cons, List.filter_cons]
    split <;> simp
  | u :: W, k + 1, t, a, h => by
    have := cnt_set (W := W) (k := k) (t := t) a (by simpa using h)
    unfold cntW at this ⊢
    rw [List.set_cons_succ, List.filter_cons, List.filter_cons]
    split
    · simp [this]
    · exact this
theorem drop_eq {n : Nat} {W : List TT} {k : Nat} (ho : OkS (absL n W) k) (a m : Int) : dropS (absL n W) a m = ((dropW n W a m).1, absL n (dropW n W a m).2) := by
  unfold dropS dropW
  rw [absL_lb]
  cases ha : isL n a with
  | false => rfl
  | true =>
    have hl := ha
    simp only [isL, Bool.and_eq_true, decide_eq_true_eq] at hl
    have hnd : ((ab W a).l.map Prod.fst).Nodup := by
      have hm : ab W a ∈ absL n W := by
        refine List.mem_of_getElem? (i := a.toNat) ?_
        rw [absL_get, if_pos (by omega), Int.toNat_of_nonneg hl.1]
      exact (ho _ hm).nd
    simp only [if_true]
    cases hf : fi (ab W a).l m with
    | none => rw [fi_ab.1 hf]
    | some j =>
      cases hg : fw W a m with
      | none => rw [fi_ab.2 hg] at hf; cases hf
      | some q =>
        obtain ⟨p, hp, hpm⟩ := fi_get hf
        obtain ⟨t, ht, hh⟩ := fw_get hg
        rw [hit_live] at hh
        simp only [ht]
        congr 1
        apply List.ext_getElem?
        intro b
        rw [List.getElem?_set, absL_len, absL_get, absL_get]
        have hla := hh.1
        unfold live at hla
        simp only [Bool.and_eq_true, decide_eq_true_eq] at hla
        by_cases hb : a.toNat = b
        · subst hb
          rw [if_pos rfl, if_pos (by omega), if_pos (by omega), Int.toNat_of_nonneg hl.1]
          congr 1
          have hn2 : ((W.filter (live a)).map TT.n).Nodup := by
            have h1 : (ab W a).l.map Prod.fst = ((W.filter (live a)).map TT.n).reverse := by
              unfold ab; simp [List.map_reverse, Function.comp_def]
            rw [h1] at hnd
            exact (List.pairwise_reverse.1 hnd).imp fun h => Ne.symm h
          have hk := filter_kill ht hh.1 hn2
          have he := erase_filter hp hnd
          have h5 : ab (W.set q { t with gone := true }) a = ⟨(ab W a).l.eraseIdx j, (ab W a).given⟩ := by
            rw [he]
            unfold ab
            rw [hk, cnt_set a ht]
            congr 1
            rw [← List.filter_reverse, List.filter_map]
            congr 1
            apply List.filter_congr
            intro u _
            simp [Function.comp, hpm, hh.2]
          rw [h5]
        · rw [if_neg hb]
          by_cases hbn : b < n
          · rw [if_pos hbn, if_pos hbn]
            congr 1
            have hne : ¬ t.lb = (b : Int) := by omega
            unfold ab
            rw [cnt_set b ht, filter_set_same ht (by simp [live, hne]) (by simp [live, hne])]
          · rw [if_neg hbn, if_neg hbn]
theorem drop_valid {n : Nat} {W : List TT} (h : Valid n W) (a m : Int) : Valid n (dropW n W a m).2 := by
  unfold dropW
  split
  · split
    · exact h
    · split
      · rename_i t ht
        intro u hu
        rcases List.mem_or_eq_of_mem_set hu with hu | rfl
        · exact h u hu
        · exact h t (List.mem_of_getElem? ht)
      · exact h
  · exact h
theorem drop_lenW (n : Nat) (W : List TT) (a m : Int) : (dropW n W a m).2.length = W.length := by
  unfold dropW
  split
  · split
    · rfl
    · split <;> simp
  · rfl
theorem names_ab (W : List TT) (a : Int) : namesW W a = (ab W a).l.map Prod.fst := by
  unfold namesW ab
  simp [Function.comp_def]
theorem newest_eq {n : Nat} {W : List TT} (hv : Valid n W) (a : Int) : newS (absL n W) a = ((namesW W a).headD 0, decide (0 < (namesW W a).length)) := by
  unfold newS
  rw [absL_lb]
  cases ha : isL n a with
  | false =>
    have : namesW W a = [] := by
      unfold namesW
      rw [List.filter_eq_nil_iff.2 fun t ht => ?_]
      · rfl
      · intro hl
        unfold live at hl
        simp only [Bool.and_eq_true, decide_eq_true_eq] at hl
        have := hv t ht
        rw [hl.1, ha] at this; cases this
    rw [this]; rfl
  | true =>
    rw [names_ab]
    simp only [if_true]
    cases h : (ab W a).l with
    | nil => rfl
    | cons p l => simp
theorem tbI_bel {T : List (List Bool)} (a : Nat) (x : Int) (ha : a < T.length) : bel (upT T) a x = tbI T a x := by
  unfold bel tbI
  rw [upT_len]
  cases h1 : isL T.length (a : Int) with
  | false => rfl
  | true =>
    cases h2 : isL T.length x with
    | false => rfl
    | true =>
      simp only [isL, Bool.and_eq_true, decide_eq_true_eq] at h2
      simp only [Bool.true_and, Int.toNat_natCast]
      exact upT_tb ha (by omega)
theorem seen_eq {T : List (List Bool)} (W : List TT) (x : Int) : ∀ k, k ≤ T.length → seenW T W x k = (seenS (absL T.length W) (downs (upT T) x k)).flatMap fun p => [p.1, p.2]
  | 0, _ => by simp [seenW, downs, seenS]
  | k + 1, hk => by
    rw [seenW_succ, seen_eq W x k (by omega), downs_succ, tbI_bel k x (by omega)]
    unfold seenS
    rw [List.flatMap_append, List.flatMap_append]
    congr 1
    cases tbI T k x with
    | false => rfl
    | true =>
      simp only [if_true, List.flatMap_cons, List.flatMap_nil, List.append_nil]
      unfold ofL pairs
      rw [absL_get, if_pos (by omega), names_ab]
      simp only [List.flatMap_map]
end Go.Proofs.YtjncbipaikmogaaDoor.Bf
namespace Go.Proofs.YtjncbipaikmogaaDoor.Bf
open Go Go.RowKit Am Latt
set_option maxRecDepth 100000
set_option linter.unusedSimpArgs false
set_option linter.unusedVariables false
attribute [-simp] Am.binEv Am.intBin Am.read1
attribute [local simp] binEv_lss binEv_leq binEv_gtr binEv_geq binEv_eql binEv_neq binEv_add binEv_sub binEv_mul binEv_shr58 read1_ro read1_mu
variable {R : Ro}
theorem binEv_sneq (a b : List UInt8) : binEv .neq (.str a) (.str b) = some (.bool (a != b)) := rfl
structure PP (H : AH) (b w l p q : Nat) (tv : AV) (T : List (List Bool)) (S : List LB) (W : List TT) (k : Nat) : Prop where
  lat : LatIn H l p q (upT T) (dnT T)
  ats : ∃ r C cs rv, At H b l r C S cs ∧ RAt H w tv rv W
  ok : OkS S k
  val : Valid T.length W
  len : W.length ≤ k
theorem own_off {H : AH} {b l r w : Nat} {C : List AV} {S : List LB} {cs : List AV} {tv rv : AV} {W : List TT} (h : At H b l r C S cs) (h' : RAt H w tv rv W) {i : Nat} (hi : Own b r cs i) : ¬ OwnR w rv i := fun hr => by
  rcases h.kind hi with ⟨c, e⟩ | ⟨c, e⟩ | ⟨c, e⟩ <;> rcases h'.kind hr with ⟨d, f⟩ | ⟨d, f⟩ <;> rw [e] at f <;> simp at f
theorem lat_offR {H : AH} {w l p q : Nat} {tv rv : AV} {W : List TT} {up dn : List Nat} (h : RAt H w tv rv W) (hL : LatIn H l p q up dn) : ∀ i, i = l ∨ i = p ∨ i = q → ¬ OwnR w rv i := by
  intro i hi ho
  have hk := h.kind ho
  rcases hi with rfl | rfl | rfl
  · rw [hL.box] at hk; simp at hk
  · rw [hL.pu] at hk; simp at hk
  · rw [hL.qd] at hk; simp at hk
theorem PP.keeps {H H' : AH} {b w l p q : Nat} {tv : AV} {T : List (List Bool)} {S : List LB} {W : List TT} {k : Nat} (h : PP H b w l p q tv T S W k) (hk : Keeps H H') : PP H' b w l p q tv T S W k := by
  obtain ⟨h1, ⟨r, C, cs, rv, hA, hR⟩, h3, h4, h5⟩ := h
  exact ⟨h1.frame fun i hi => hk.2 i (lat_lt h1 i hi), ⟨r, C, cs, rv, Own.keeps hA hk, hR.keeps hk⟩, h3, h4, h5⟩
theorem PP.more {H : AH} {b w l p q : Nat} {tv : AV} {T : List (List Bool)} {S : List LB} {W : List TT} {k k' : Nat} (h : PP H b w l p q tv T S W k) (hk : k ≤ k') : PP H b w l p q tv T S W k' := ⟨h.lat, h.ats, h.ok.mono hk, h.val, by have := h.len; omega⟩
theorem PP.put {H : AH} {b w l p q : Nat} {tv : AV} {T : List (List Bool)} {S : List LB} {W : List TT} {k : Nat} (h : PP H b w l p q tv T S W k) (hk : k ≤ 800) (a : Int) (s : List UInt8) :
    ACalls Tryd.prog R 11 [.ptr (.mu b) 0, .int .i64 a, .str s] H fun v H' => v = .tuple [.int .i64 (putS S a s).1.1, .int .i64 (putS S a s).1.2] ∧ PP H' b w l p q tv T (putS S a s).2 W (k + 1) := by
  obtain ⟨h1, ⟨r, C, cs, rv, hA, hR⟩, h3, h4, h5⟩ := h
  refine (put_ok hA a s h3.len fun x hx => ⟨(h3 x hx).g0, by have := (h3 x hx).gk; omega⟩).mono ?_
  rintro v H' ⟨C', cs', rfl, hA', hm⟩
  exact ⟨rfl, h1.frame fun i hi => hm.2.1 i (lat_lt h1 i hi) (lat_off hA h1 i hi), ⟨r, C', cs', rv, hA', hR.frame fun i hi => hm.2.1 i (hR.lt hi) fun ho => own_off hA hR ho hi⟩, h3.put a s, h4, by omega⟩
theorem PP.rput {H : AH} {b w l p q : Nat} {tv : AV} {T : List (List Bool)} {S : List LB} {W : List TT} {k : Nat} (h : PP H b w l p q tv T S W k) (ht : ∀ H, TabIn R H tv T) (htv : tv.oneCell = true) (hk : k ≤ 800) (a : Int) (s : List UInt8) :
    ACalls Tryd.prog R 12 [.ptr (.mu w) 0, .int .i64 a, .str s] H fun v H' => v = .tuple [.int .i64 (putW T.length W a s).1.1, .int .i64 (putW T.length W a s).1.2] ∧ PP H' b w l p q tv T S (putW T.length W a s).2 (k + 1) := by
  obtain ⟨h1, ⟨r, C, cs, rv, hA, hR⟩, h3, h4, h5⟩ := h
  refine (rput_ok hR (ht H) htv (by omega) a s).mono ?_
  rintro v H' ⟨rv', rfl, hR', hm⟩
  exact ⟨rfl, h1.frame fun i hi => hm.2.1 i (lat_lt h1 i hi) (lat_offR hR h1 i hi), ⟨r, C, cs, rv', hA.frame fun i hi => hm.2.1 i (hA.lt hi) (own_off hA hR hi), hR'⟩, h3.mono (by omega), put_valid h4 a s, by have := put_lenW T.length W a s; omega⟩
theorem PP.drop {H : AH} {b w l p q : Nat} {tv : AV} {T : List (List Bool)} {S : List LB} {W : List TT} {k : Nat} (h : PP H b w l p q tv T S W k) (a n : Int) :
    ACalls Tryd.prog R 13 [.ptr (.mu b) 0, .int .i64 a, .int .i64 n] H fun v H' => v = .int .i64 (dropS S a n).1 ∧ PP H' b w l p q tv T (dropS S a n).2 W k := by
  obtain ⟨h1, ⟨r, C, cs, rv, hA, hR⟩, h3, h4, h5⟩ := h
  refine (drop_ok hA a n h3.len).mono ?_
  rintro v H' ⟨C', cs', rfl, hA', hm⟩
  exact ⟨rfl, h1.frame fun i hi => hm.2.1 i (lat_lt h1 i hi) (lat_off hA h1 i hi), ⟨r, C', cs', rv, hA', hR.frame fun i hi => hm.2.1 i (hR.lt hi) fun ho => own_off hA hR ho hi⟩, h3.drop a n, h4, h5⟩
theorem PP.rdrop {H : AH} {b w l p q : Nat} {tv : AV} {T : List (List Bool)} {S : List LB} {W : List TT} {k : Nat} (h : PP H b w l p q tv T S W k) (ht : ∀ H, TabIn R H tv T) (hk : k ≤ 800) (a n : Int) :
    ACalls Tryd.prog R 14 [.ptr (.mu w) 0, .int .i64 a, .int .i64 n] H fun v H' => v = .int .i64 (dropW T.length W a n).1 ∧ PP H' b w l p q tv T S (dropW T.length W a n).2 k := by
  obtain ⟨h1, ⟨r, C, cs, rv, hA, hR⟩, h3, h4, h5⟩ := h
  refine (rdrop_ok hR (ht H) (by omega) a n).mono ?_
  rintro v H' ⟨rfl, hR', hm⟩
  exact ⟨rfl, h1.frame fun i hi => hm.2.1 i (lat_lt h1 i hi) (lat_offR hR h1 i hi), ⟨r, C, cs, rv, hA.frame fun i hi => hm.2.1 i (hA.lt hi) (own_off hA hR hi), hR'⟩, h3, drop_valid h4 a n, by rw [drop_lenW]; exact h5⟩
theorem flat_get : ∀ (L : List NM) (i : Nat) (p : NM), L[i]? = some p → (intsV (L.flatMap fun p => [p.1, p.2]))[2 * i]? = some (.int .i64 p.1) ∧ (intsV (L.flatMap fun p => [p.1, p.2]))[2 * i + 1]? = some (.int .i64 p.2)
  | [], i, p, h => by simp at h
  | q :: L, 0, p, h => by simp at h; subst h; simp [intsV]
  | q :: L, i + 1, p, h => by
    have := flat_get L i p (by simpa using h)
    have e1 : 2 * (i + 1) = 2 * i + 1 + 1 := by omega
    have e2 : 2 * (i + 1) + 1 = 2 * i + 1 + 1 + 1 := by omega
    rw [e2, e1]
    simpa [intsV] using this
theorem flat_len : ∀ L : List NM, (L.flatMap fun p => [p.1, p.2]).length = 2 * L.length
  | [] => rfl
  | q :: L => by
    have := flat_len L
    simp only [List.flatMap_cons, List.length_append, List.length_cons, List.length_nil, this]; omega
set_option maxHeartbeats 8000000 in
theorem tells_ok {H : AH} {b w l p q : Nat} {tv : AV} {T : List (List Bool)} {W : List TT} {k : Nat} (h : PP H b w l p q tv T (absL T.length W) W k) (ht : ∀ H, TabIn R H tv T) (gd : GoodT T) (hk : k ≤ 800) (a n : Int) :
    ACalls Tryd.prog R 15 [.ptr (.mu b) 0, .ptr (.mu w) 0, .int .i64 a, .int .i64 n] H fun v H' => v = .bool true ∧ Keeps H H' := by
  have g1 := gd.lo
  have g2 := gd.hi
  have hge := get_eq h.ok h.val a n
  have hnw := newest_eq h.val a
  have hro := room_eq T.length W a
  have hse := seen_eq W a T.length (Nat.le_refl _)
  have hWl : W.length ≤ 800 := by have := h.len; omega
  obtain ⟨r, C, cs, rv, hA, hR⟩ := h.ats
  refine ACalls.of_wpE Fns.ok15 (by simp [Fns.a15]) ?_
  simp [Fns.a15]
  refine (get_ok hA a n h.ok.len).mono ?_
  rintro v H ⟨rfl, rfl⟩
  rw [hge]
  simp
  refine (rget_ok hR (by omega) a n).mono ?_
  rintro v H ⟨rfl, rfl⟩
  simp
  refine (newest_ok hA a).mono ?_
  rintro v H ⟨rfl, rfl⟩
  rw [hnw]
  simp
  refine (rnames_ok hR (by omega) a).mono ?_
  rintro v1 H1 hv1
  have hA1 := Own.keeps hA hv1.keeps
  have hR1 := hR.keeps hv1.keeps
  have hL1 := (h.lat.frame (H' := H1) fun i hi => hv1.keeps.2 i (lat_lt h.lat i hi)).at (R := R) g1 g2
  have hup : (absL T.length W).length = (upT T).length := by rw [absL_len, upT_len]
  have hsl := seen_len h.ok.len (downs (upT T) a (upT T).length)
  have hdl := downs_le (upT T) a (upT T).length
  have hle64 : (upT T).length ≤ 64 := by rw [upT_len]; exact g2
  have hupT := upT_len T
  have hseen := seen_ok (R := R) hA1 hL1 hup a h.ok.len
  rw [hupT] at hseen hsl hdl
  have lens : ∀ (v : AV) (H : AH) (m sz : Nat) (t : TypeId) (C : List AV), RowAt H v m sz t C → ∀ H', (AOp.lenL (.t 0)).eval Tryd.prog R (fun _ => v) H' = some (.int .i64 m, H') := fun v H m sz t C hv H' => by
    rcases hv with ⟨rfl, h0, _⟩ | ⟨j, rfl, _⟩
    · simp [h0]
    · simp
  have hl1 := lens v1 _ _ _ _ _ hv1.row
  simp only [AOp.eval, X.ev] at hl1
  have hne : ∀ z rest, namesW W a = z :: rest → ∃ j, v1 = .slice (.mu j) 0 (namesW W a).length (.opn 0) ∧ H1[j]? = some (.row (intsV (namesW W a)) 3 1) := fun z rest hz => by
    rcases hv1.row with ⟨_, h0, _⟩ | ⟨j, h1, h2, _⟩
    · rw [hz] at h0; simp at h0
    · exact ⟨j, h1, h2⟩
  cases hN : namesW W a with
  | nil =>
    rw [hN] at hl1
    simp at hl1
    simp [hl1]
    refine hseen.mono ?_
    rintro v2 H2 hv2
    simp
    refine (rseen_ok (hR1.keeps hv2.keeps) ht gd.rows g2 (by omega) a).mono ?_
    rintro v3 H3 hv3
    have hK := (hv1.keeps.trans hv2.keeps).trans hv3.keeps
    have hrow2 := (hv2.more hv3.keeps).row
    have hrow3 := hv3.row
    rw [hse] at hrow3
    clear hv2 hv3 hseen
    generalize seenS (absL T.length W) (downs (upT T) a T.length) = N at hrow2 hrow3 hsl
    rw [flat_len] at hrow3
    have l2 := lens v2 _ _ _ _ _ hrow2
    have l3 := lens v3 _ _ _ _ _ hrow3
    simp only [AOp.eval, X.ev] at l2 l3
    have hNl : N.length ≤ 512 := by omega
    have hw2 := i64_small (2 * (N.length : Int)) (by omega) (by omega)
    simp [hN, binEv_sneq, hl1]
    refine (room_ok (Own.keeps hA hK) a h.ok.len).mono ?_
    rintro v H3 ⟨rfl, rfl⟩
    rw [hro]
    simp [hN, binEv_sneq, hl1]
    refine (rroom_ok (hR.keeps hK) (ht _) (by omega) a).mono ?_
    rintro v H3 ⟨rfl, rfl⟩
    simp [hN, l2, l3, hw2]
    refine AWp.loop (fun e' H' => H' = H3 ∧ e' 17 = v2 ∧ e' 18 = v3 ∧ ∃ i : Nat, e' 19 = .int .i64 i ∧ i ≤ N.length) (fun e _ => match e 19 with | .int _ i => ((N.length : Int) - i).toNat | _ => 0) ⟨rfl, by simp, by simp, 0, by simp, by omega⟩ ?_
    rintro e' H' ⟨rfl, g17, g18, i, g19, hi⟩
    refine wpE_sound _ ?_
    by_cases hil : i < N.length
    · have hil' : (i : Int) < (N.length : Int) := by omega
      have hw1 := i64_small ((i : Int) + 1) (by omega) (by omega)
      have hw3 := i64_small (2 * (i : Int)) (by omega) (by omega)
      have hw4 := i64_small (2 * (i : Int) + 1) (by omega) (by omega)
      obtain ⟨q2, rfl, hq2⟩ : ∃ q, v2 = .slice (.mu q) 0 N.length (.opn 0) ∧ H'[q]? = some (.row (nmsV N) 53 2) := by
        rcases hrow2 with ⟨_, h0, _⟩ | ⟨q, h1, h2, _⟩
        · omega
        · exact ⟨q, h1, h2⟩
      obtain ⟨q3, rfl, hq3⟩ : ∃ q, v3 = .slice (.mu q) 0 (2 * N.length) (.opn 0) ∧ H'[q]? = some (.row (intsV (N.flatMap fun p => [p.1, p.2])) 3 1) := by
        rcases hrow3 with ⟨_, h0, _⟩ | ⟨q, h1, h2, _⟩
        · omega
        · exact ⟨q, h1, h2⟩
      have hp : N[i]? = some N[i] := List.getElem?_eq_getElem hil
      obtain ⟨t0, t1⟩ := nmsV_get N i _ hp
      obtain ⟨f0, f1⟩ := flat_get N i _ hp
      have hnlen : ∀ M : List NM, (nmsV M).length = M.length * 2 := fun M => by
        induction M with
        | nil => rfl
        | cons q M ih => simp [nmsV, ih]; omega
      have hfit : i * 2 + 2 ≤ (nmsV N).length := by rw [hnlen]; omega
      have hrd : ((nmsV N).drop (i * 2)).take 2 = [.int .i64 N[i].1, .int .i64 N[i].2] := by
        have e1 : i * 2 < (nmsV N).length := by omega
        have e2 : i * 2 + 1 < (nmsV N).length := by omega
        rw [List.drop_eq_getElem_cons e1, List.drop_eq_getElem_cons e2]
        rw [List.getElem?_eq_getElem e1] at t0
        rw [List.getElem?_eq_getElem e2] at t1
        simp only [Option.some.injEq] at t0 t1
        simp [t0, t1]
      have heq := eqP N[i].1 N[i].2 N[i].1 N[i].2
      simp only [fieldsP, and_self, decide_true] at heq
      generalize N[i].1 = p1 at t0 t1 f0 f1 hrd heq
      generalize N[i].2 = p2 at t0 t1 f0 f1 hrd heq
      have b1 : (2 * (i : Int)) < 2 * (N.length : Int) := by omega
      have b2 : (2 * (i : Int) + 1) < 2 * (N.length : Int) := by omega
      have b3 : 0 ≤ 2 * (i : Int) + 1 := by omega
      have b4 : (2 * (i : Int)).toNat = 2 * i := by omega
      have b6 : 0 ≤ 2 * (i : Int) := by omega
      have b5 : (2 * (i : Int) + 1).toNat = 2 * i + 1 := by omega
      simp [g17, g18, g19, hil, hil']
      refine AWp.sched [0, 1, 2, 3, 4, 5, 6, 7, 8, 9, 10, 11, 12, 13, 14, 15, 16] Fns.mixed (by decide +kernel) ?_
      simp [-Am.eqEv, g17, g18, g19, hil, hil', hq2, hq3, hrd, hfit, hw1, hw3, hw4, f0, f1, b1, b2, b3, b4, b5, b6, fillA, splice, heq]
      exact ⟨⟨i + 1, by simp, by omega⟩, by omega⟩
    · obtain rfl : i = N.length := by omega
      simp [g17, g18, g19, l2]
      exact hK
  | cons z zs =>
    obtain ⟨j, rfl, hj⟩ := hne z zs hN
    rw [hN] at hj
    have hz0 : (intsV (z :: zs))[0]? = some (.int .i64 z) := rfl
    have hz1 : (0 : Int) < (zs.length : Int) + 1 := by omega
    have hz2 : (0 : Int) < ((zs.length + 1 : Nat) : Int) := by omega
    simp [hN, hj, hz0, hz1]
    refine hseen.mono ?_
    rintro v2 H2 hv2
    simp
    refine (rseen_ok (hR1.keeps hv2.keeps) ht gd.rows g2 (by omega) a).mono ?_
    rintro v3 H3 hv3
    have hK := (hv1.keeps.trans hv2.keeps).trans hv3.keeps
    have hrow2 := (hv2.more hv3.keeps).row
    have hrow3 := hv3.row
    rw [hse] at hrow3
    clear hv2 hv3 hseen
    generalize seenS (absL T.length W) (downs (upT T) a T.length) = N at hrow2 hrow3 hsl
    rw [flat_len] at hrow3
    have l2 := lens v2 _ _ _ _ _ hrow2
    have l3 := lens v3 _ _ _ _ _ hrow3
    simp only [AOp.eval, X.ev] at l2 l3
    have hNl : N.length ≤ 512 := by omega
    have hw2 := i64_small (2 * (N.length : Int)) (by omega) (by omega)
    simp [hN, hz1, hz2, binEv_sneq]
    refine (room_ok (Own.keeps hA hK) a h.ok.len).mono ?_
    rintro v H3 ⟨rfl, rfl⟩
    rw [hro]
    simp [hN, hz1, hz2, binEv_sneq]
    refine (rroom_ok (hR.keeps hK) (ht _) (by omega) a).mono ?_
    rintro v H3 ⟨rfl, rfl⟩
    simp [hN, hz1, hz2, l2, l3, hw2]
    refine AWp.loop (fun e' H' => H' = H3 ∧ e' 17 = v2 ∧ e' 18 = v3 ∧ ∃ i : Nat, e' 19 = .int .i64 i ∧ i ≤ N.length) (fun e _ => match e 19 with | .int _ i => ((N.length : Int) - i).toNat | _ => 0) ⟨rfl, by simp, by simp, 0, by simp, by omega⟩ ?_
    rintro e' H' ⟨rfl, g17, g18, i, g19, hi⟩
    refine wpE_sound _ ?_
    by_cases hil : i < N.length
    · have hil' : (i : Int) < (N.length : Int) := by omega
      have hw1 := i64_small ((i : Int) + 1) (by omega) (by omega)
      have hw3 := i64_small (2 * (i : Int)) (by omega) (by omega)
      have hw4 := i64_small (2 * (i : Int) + 1) (by omega) (by omega)
      obtain ⟨q2, rfl, hq2⟩ : ∃ q, v2 = .slice (.mu q) 0 N.length (.opn 0) ∧ H'[q]? = some (.row (nmsV N) 53 2) := by
        rcases hrow2 with ⟨_, h0, _⟩ | ⟨q, h1, h2, _⟩
        · omega
        · exact ⟨q, h1, h2⟩
      obtain ⟨q3, rfl, hq3⟩ : ∃ q, v3 = .slice (.mu q) 0 (2 * N.length) (.opn 0) ∧ H'[q]? = some (.row (intsV (N.flatMap fun p => [p.1, p.2])) 3 1) := by
        rcases hrow3 with ⟨_, h0, _⟩ | ⟨q, h1, h2, _⟩
        · omega
        · exact ⟨q, h1, h2⟩
      have hp : N[i]? = some N[i] := List.getElem?_eq_getElem hil
      obtain ⟨t0, t1⟩ := nmsV_get N i _ hp
      obtain ⟨f0, f1⟩ := flat_get N i _ hp
      have hnlen : ∀ M : List NM, (nmsV M).length = M.length * 2 := fun M => by
        induction M with
        | nil => rfl
        | cons q M ih => simp [nmsV, ih]; omega
      have hfit : i * 2 + 2 ≤ (nmsV N).length := by rw [hnlen]; omega
      have hrd : ((nmsV N).drop (i * 2)).take 2 = [.int .i64 N[i].1, .int .i64 N[i].2] := by
        have e1 : i * 2 < (nmsV N).length := by omega
        have e2 : i * 2 + 1 < (nmsV N).length := by omega
        rw [List.drop_eq_getElem_cons e1, List.drop_eq_getElem_cons e2]
        rw [List.getElem?_eq_getElem e1] at t0
        rw [List.getElem?_eq_getElem e2] at t1
        simp only [Option.some.injEq] at t0 t1
        simp [t0, t1]
      have heq := eqP N[i].1 N[i].2 N[i].1 N[i].2
      simp only [fieldsP, and_self, decide_true] at heq
      generalize N[i].1 = p1 at t0 t1 f0 f1 hrd heq
      generalize N[i].2 = p2 at t0 t1 f0 f1 hrd heq
      have b1 : (2 * (i : Int)) < 2 * (N.length : Int) := by omega
      have b2 : (2 * (i : Int) + 1) < 2 * (N.length : Int) := by omega
      have b3 : 0 ≤ 2 * (i : Int) + 1 := by omega
      have b4 : (2 * (i : Int)).toNat = 2 * i := by omega
      have b6 : 0 ≤ 2 * (i : Int) := by omega
      have b5 : (2 * (i : Int) + 1).toNat = 2 * i + 1 := by omega
      simp [g17, g18, g19, hil, hil']
      refine AWp.sched [0, 1, 2, 3, 4, 5, 6, 7, 8, 9, 10, 11, 12, 13, 14, 15, 16] Fns.mixed (by decide +kernel) ?_
      simp [-Am.eqEv, g17, g18, g19, hil, hil', hq2, hq3, hrd, hfit, hw1, hw3, hw4, f0, f1, b1, b2, b3, b4, b5, b6, fillA, splice, heq]
      exact ⟨⟨i + 1, by simp, by omega⟩, by omega⟩
    · obtain rfl : i = N.length := by omega
      simp [g17, g18, g19, l2]
      exact hK
end Go.Proofs.YtjncbipaikmogaaDoor.Bf
namespace Go.Proofs.YtjncbipaikmogaaDoor.Bf
open Go Go.RowKit Am Latt
set_option maxRecDepth 100000
set_option linter.unusedSimpArgs false
set_option linter.unusedVariables false
attribute [-simp] Am.binEv Am.intBin Am.read1
attribute [local simp] binEv_lss binEv_leq binEv_gtr binEv_geq binEv_eql binEv_neq binEv_add binEv_sub binEv_mul binEv_shr58 read1_ro read1_mu
variable {R : Ro}
set_option maxHeartbeats 4000000 in
theorem great_ok {H0 : AH} {tv : AV} {T : List (List Bool)} (ht : TabIn R H0 tv T) {a : AV} {E : List Act} (h : Acts R a E) : ACalls Tryd.prog R 7 [tv, a] H0 fun v H' => H' = H0 ∧ ∃ b, v = .bool b ∧ (b = false → E.length ≤ 150) := by
  have hlen := h.len
  refine ACalls.of_wpE Fns.ok7 (by simp [Fns.a7]) ?_
  simp [Fns.a7]
  refine AWp.loop (fun e H' => H' = H0 ∧ e 0 = tv ∧ e 1 = a ∧ ∃ (i : Nat) (s : Int), e 6 = .int .i64 i ∧ e 5 = .int .i64 s ∧ i ≤ E.length ∧ i ≤ 151 ∧ 0 ≤ s ∧ s ≤ i * 60001) (fun e _ => match e 6 with | .int _ i => ((E.length : Int) - i).toNat | _ => 0) ⟨rfl, rfl, rfl, 0, 0, rfl, rfl, by omega, by omega, by omega, by omega⟩ ?_
  rintro e H' ⟨rfl, h0, h1, i, s, h6, h5, hi, hi2, hs0, hs⟩
  refine wpE_sound _ ?_
  have htl := ht.lenEv
  by_cases hlt : i < E.length
  · obtain ⟨b, off, cap, ha, r0, r1, r2, r3⟩ := h.at hlt
    have hlt' : (i : Int) < (E.length : Int) := by omega
    have hw1 := i64_small ((i : Int) + 1) (by omega) (by omega)
    obtain ⟨m, hm, hm2⟩ : ∃ m : Int, m = (if 60001 < ((E[i].2.2.2).length : Int) then 60001 else ((E[i].2.2.2).length : Int)) ∧ 0 ≤ m ∧ m ≤ 60001 := ⟨_, rfl, by split <;> omega⟩
    have hw2 := i64_small (s + m) (by omega) (by omega)
    have h1' := h1
    rw [ha] at h1'
    by_cases hb : i ≤ 150
    · have hb' : (i : Int) ≤ 150 := by omega
      simp [h0, h1', h6, h5, hlt, hlt', hb, hb', r3, foldI, ← hm, hw1, hw2]
      exact ⟨⟨ha.symm, i + 1, by simp, by omega, by omega, by omega, by omega⟩, by omega⟩
    · have hb' : ¬ (i : Int) ≤ 150 := by omega
      simp [h0, h1', h6, h5, hlt, hlt', hb, hb']
      rcases htl with ⟨htv, hT0⟩ | ⟨tl, toff, tcap, htv⟩ <;>
      · refine AWp.loop (fun e H1 => H1 = H' ∧ e 0 = tv ∧ e 1 = a ∧ e 5 = .int .i64 s ∧ ∃ j : Nat, e 7 = .int .i64 j ∧ j ≤ T.length ∧ j ≤ 21) (fun e _ => match e 7 with | .int _ i => ((T.length : Int) - i).toNat | _ => 0) ⟨rfl, by simp [h0], by simp [h1, ha], by simp [h5], 0, by simp, by omega, by omega⟩ ?_
        rintro e H1 ⟨rfl, h0, h1, h5, j, h7, hj, hj2⟩
        refine wpE_sound _ ?_
        rw [htv] at h0
        by_cases hjl : j < T.length
        · have hjl' : (j : Int) < (T.length : Int) := by omega
          have hw1 : IntKind.i64.wrap ((j : Int) + 1) = (j : Int) + 1 := i64_small _ (by omega) (by omega)
          have hri : T[j]? = some T[j] := List.getElem?_eq_getElem hjl
          by_cases hj3 : j ≤ 20
          · have hj3' : (j : Int) ≤ 20 := by omega
            first
            | (exfalso; omega)
            | (rw [htv] at ht
               rcases ht.row hri with ⟨L, o, c, hrd, _⟩ | ⟨hn, hrd | ⟨A, c, hrd⟩⟩
               · by_cases hl : 20 < T[j].length
                 · have hl' : (20 : Int) < (T[j].length : Int) := by omega
                   simp [h0, h7, hjl, hjl', hj3, hj3', hrd, hl, hl']
                 · have hl' : ¬ (20 : Int) < (T[j].length : Int) := by omega
                   simp [h0, h7, hjl, hjl', hj3, hj3', hrd, hl, hl', hw1]
                   exact ⟨⟨htv.symm, h1, h5, j + 1, by simp, by omega, by omega⟩, by omega⟩
               · simp [h0, h7, hjl, hjl', hj3, hj3', hrd, hw1]
                 exact ⟨⟨htv.symm, h1, h5, j + 1, by simp, by omega, by omega⟩, by omega⟩
               · simp [h0, h7, hjl, hjl', hj3, hj3', hrd, hw1]
                 exact ⟨⟨htv.symm, h1, h5, j + 1, by simp, by omega, by omega⟩, by omega⟩)
          · have hj3' : ¬ (j : Int) ≤ 20 := by omega
            have hl : (20 : Int) < (T.length : Int) := by omega
            have hl' : 20 < T.length := by omega
            first
            | (exfalso; omega)
            | simp [h0, h7, hjl, hjl', hj3, hj3', hl, hl']
        · obtain rfl : j = T.length := by omega
          have hnT : ¬ (T.length : Int) < 0 := by omega
          rw [ha] at h1
          by_cases h4 : 20 < T.length
          · have h4' : (20 : Int) < (T.length : Int) := by omega
            first
            | (exfalso; omega)
            | simp [h0, h1, h5, h7, h4, h4', hnT]
          · have h4' : ¬ (20 : Int) < (T.length : Int) := by omega
            by_cases h6 : 150 < E.length
            · have h6' : (150 : Int) < (E.length : Int) := by omega
              first
              | (exfalso; omega)
              | simp [h0, h1, h5, h7, h4, h4', h6, h6', hnT]
            · have h6' : ¬ (150 : Int) < (E.length : Int) := by omega
              simp [h0, h1, h5, h7, h4, h4', h6, h6', hnT]
              try omega
  · obtain rfl : i = E.length := by omega
    have hnl : ¬ (E.length : Int) < 0 := by omega
    rcases hlen with ⟨ha, hE0⟩ | ⟨b, off, cap, ha⟩ <;> rcases htl with ⟨htv, hT0⟩ | ⟨tl, toff, tcap, htv⟩ <;>
    · have h1' := h1
      rw [ha] at h1'
      simp [h0, h1', h6, h5, hnl]
      refine AWp.loop (fun e H1 => H1 = H' ∧ e 0 = tv ∧ e 1 = a ∧ e 5 = .int .i64 s ∧ ∃ j : Nat, e 7 = .int .i64 j ∧ j ≤ T.length ∧ j ≤ 21) (fun e _ => match e 7 with | .int _ i => ((T.length : Int) - i).toNat | _ => 0) ⟨rfl, by simp [h0], by simp [h1, ha], by simp [h5], 0, by simp, by omega, by omega⟩ ?_
      rintro e H1 ⟨rfl, h0, h1, h5, j, h7, hj, hj2⟩
      refine wpE_sound _ ?_
      rw [htv] at h0
      by_cases hjl : j < T.length
      · have hjl' : (j : Int) < (T.length : Int) := by omega
        have hw1 : IntKind.i64.wrap ((j : Int) + 1) = (j : Int) + 1 := i64_small _ (by omega) (by omega)
        have hri : T[j]? = some T[j] := List.getElem?_eq_getElem hjl
        by_cases hj3 : j ≤ 20
        · have hj3' : (j : Int) ≤ 20 := by omega
          first
          | (exfalso; omega)
          | (rw [htv] at ht
             rcases ht.row hri with ⟨L, o, c, hrd, _⟩ | ⟨hn, hrd | ⟨A, c, hrd⟩⟩
             · by_cases hl : 20 < T[j].length
               · have hl' : (20 : Int) < (T[j].length : Int) := by omega
                 simp [h0, h7, hjl, hjl', hj3, hj3', hrd, hl, hl']
               · have hl' : ¬ (20 : Int) < (T[j].length : Int) := by omega
                 simp [h0, h7, hjl, hjl', hj3, hj3', hrd, hl, hl', hw1]
                 exact ⟨⟨htv.symm, h1, h5, j + 1, by simp, by omega, by omega⟩, by omega⟩
             · simp [h0, h7, hjl, hjl', hj3, hj3', hrd, hw1]
               exact ⟨⟨htv.symm, h1, h5, j + 1, by simp, by omega, by omega⟩, by omega⟩
             · simp [h0, h7, hjl, hjl', hj3, hj3', hrd, hw1]
               exact ⟨⟨htv.symm, h1, h5, j + 1, by simp, by omega, by omega⟩, by omega⟩)
        · have hj3' : ¬ (j : Int) ≤ 20 := by omega
          have hl : (20 : Int) < (T.length : Int) := by omega
          have hl' : 20 < T.length := by omega
          first
          | (exfalso; omega)
          | simp [h0, h7, hjl, hjl', hj3, hj3', hl, hl']
      · obtain rfl : j = T.length := by omega
        have hnT : ¬ (T.length : Int) < 0 := by omega
        rw [ha] at h1
        by_cases h4 : 20 < T.length
        · have h4' : (20 : Int) < (T.length : Int) := by omega
          first
          | (exfalso; omega)
          | simp [h0, h1, h5, h7, h4, h4', hnT]
        · have h4' : ¬ (20 : Int) < (T.length : Int) := by omega
          by_cases h6 : 150 < E.length
          · have h6' : (150 : Int) < (E.length : Int) := by omega
            first
            | (exfalso; omega)
            | simp [h0, h1, h5, h7, h4, h4', h6, h6', hnT]
          · have h6' : ¬ (150 : Int) < (E.length : Int) := by omega
            simp [h0, h1, h5, h7, h4, h4', h6, h6', hnT]
            try omega
end Go.Proofs.YtjncbipaikmogaaDoor.Bf
