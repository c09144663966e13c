/- The document's buffers: what only looks at them. -/
import Derived.Test.YtjncbipaikmogaaDoorBfNew
import Derived.Test.YtjncbipaikmogaaDoorLatRef
import Derived.Test.YtjncbipaikmogaaDoorLatRNew
import Derived.Test.YtjncbipaikmogaaDoorLatGrid
namespace Go.Proofs.YtjncbipaikmogaaDoor.Bf
open Go Go.RowKit Am Latt
set_option maxRecDepth 100000
set_option linter.unusedSimpArgs false
set_option linter.unusedVariables false
attribute [-simp] Am.binEv Am.intBin Am.read1
attribute [local simp] binEv_lss binEv_leq binEv_gtr binEv_geq binEv_eql binEv_neq binEv_add binEv_sub binEv_mul binEv_shr58 read1_ro read1_mu
variable {R : Ro}
structure TT where
  lb : Int
  n : Int
  s : List UInt8
  gone : Bool
def ttV : List TT → List AV
  | [] => []
  | t :: W => .int .i64 t.lb :: .int .i64 t.n :: .str t.s :: .bool t.gone :: ttV W
theorem ttV_len : ∀ W, (ttV W).length = W.length * 4
  | [] => rfl
  | t :: W => by simp [ttV, ttV_len W]; omega
theorem ttV_app : ∀ (W V : List TT), ttV (W ++ V) = ttV W ++ ttV V
  | [], V => rfl
  | t :: W, V => by simp [ttV, ttV_app W V]
theorem ttV_get : ∀ (W : List TT) (i : Nat) (t : TT), W[i]? = some t → (ttV W)[i * 4]? = some (.int .i64 t.lb) ∧ (ttV W)[i * 4 + 1]? = some (.int .i64 t.n) ∧ (ttV W)[i * 4 + 2]? = some (.str t.s) ∧ (ttV W)[i * 4 + 3]? = some (.bool t.gone)
  | [], i, t, h => by simp at h
  | q :: W, 0, t, h => by simp at h; subst h; simp [ttV]
  | q :: W, i + 1, t, h => by
    have := ttV_get W i t (by simpa using h)
    have e1 : (i + 1) * 4 = i * 4 + 1 + 1 + 1 + 1 := by omega
    have e2 : (i + 1) * 4 + 1 = i * 4 + 1 + 1 + 1 + 1 + 1 := by omega
    have e3 : (i + 1) * 4 + 2 = i * 4 + 2 + 1 + 1 + 1 + 1 := by omega
    have e4 : (i + 1) * 4 + 3 = i * 4 + 3 + 1 + 1 + 1 + 1 := by omega
    rw [e4, e3, e2, e1]
    exact this
theorem ttV_set : ∀ (W : List TT) (i : Nat) (t : TT), W[i]? = some t → (ttV W).set (i * 4 + 3) (.bool true) = ttV (W.set i { t with gone := true })
  | [], i, t, h => by simp at h
  | q :: W, 0, t, h => by simp at h; subst h; simp [ttV]
  | q :: W, i + 1, t, h => by
    have := ttV_set W i t (by simpa using h)
    have e4 : (i + 1) * 4 + 3 = i * 4 + 3 + 1 + 1 + 1 + 1 := by omega
    rw [e4]
    simp [ttV, this]
def live (a : Int) (t : TT) : Bool := decide (t.lb = a) && !t.gone
def hit (a n : Int) (t : TT) : Bool := decide (t.lb = a) && (decide (t.n = n) && !t.gone)
structure RAt (H : AH) (w : Nat) (tv rv : AV) (W : List TT) : Prop where
  box : H[w]? = some (.cells [tv, rv] 36)
  row : RowAt H rv W.length 4 93 (ttV W)
theorem RAt.rows {H : AH} {w : Nat} {tv rv : AV} {W : List TT} (h : RAt H w tv rv W) : (rv = .nilslice ∧ W = []) ∨ ∃ j, rv = .slice (.mu j) 0 W.length (.opn 0) ∧ H[j]? = some (.row (ttV W) 93 4) := by
  rcases h.row with ⟨h1, h2, _⟩ | ⟨j, h1, h2, _⟩
  · exact .inl ⟨h1, List.eq_nil_of_length_eq_zero h2⟩
  · exact .inr ⟨j, h1, h2⟩
theorem rlabel_ok {H : AH} {w : Nat} {tv rv : AV} {W : List TT} {T : List (List Bool)} (h : RAt H w tv rv W) (ht : TabIn R H tv T) (a : Int) : ACalls Tryd.prog R 30 [.ptr (.mu w) 0, .int .i64 a] H fun v H' => v = .bool (isL T.length a) ∧ H' = H := by
  have hb := h.box
  refine ACalls.of_wpE Fns.ok30 (by simp [Fns.a30]) ?_
  by_cases h0 : 0 ≤ a
  · rcases ht.lenEv with ⟨rfl, hT⟩ | ⟨l, off, cap, rfl⟩
    · have : isL T.length a = decide (a < 0) := by simp [isL, h0, hT]
      simp [Fns.a30, hb, h0, this]
    · have : isL T.length a = decide (a < (T.length : Int)) := by simp [isL, h0]
      simp [Fns.a30, hb, h0, this]
  · have : isL T.length a = false := by simp [isL, h0]
    simp [Fns.a30, hb, h0, this]
def roomW (n : Nat) (W : List TT) (a : Int) : Int := if isL n a then 8 - ((W.filter (live a)).length : Nat) else 0
theorem filter_take {W : List TT} {p : TT → Bool} {i : Nat} {t : TT} (h : W[i]? = some t) : (W.take (i + 1)).filter p = (W.take i).filter p ++ if p t then [t] else [] := by
  rw [List.take_add_one, h, Option.toList_some, List.filter_append]
  cases hp : p t <;> simp [hp]
set_option maxHeartbeats 2000000 in
theorem rroom_ok {H : AH} {w : Nat} {tv rv : AV} {W : List TT} {T : List (List Bool)} (h : RAt H w tv rv W) (ht : TabIn R H tv T) (hW : W.length ≤ 1000) (a : Int) : ACalls Tryd.prog R 31 [.ptr (.mu w) 0, .int .i64 a] H fun v H' => v = .int .i64 (roomW T.length W a) ∧ H' = H := by
  have hb := h.box
  refine ACalls.of_wpE Fns.ok31 (by simp [Fns.a31]) ?_
  simp [Fns.a31]
  refine (rlabel_ok h ht a).mono ?_
  rintro v H ⟨rfl, rfl⟩
  cases ha : isL T.length a with
  | false => simp [roomW, ha]
  | true =>
    simp
    rcases h.rows with ⟨rfl, rfl⟩ | ⟨j, rfl, hj⟩
    · refine AWp.loop (fun e H' => H' = H ∧ e 0 = .ptr (.mu w) 0 ∧ e 6 = .int .i64 0 ∧ e 5 = .int .i64 8) (fun _ _ => 0) ⟨rfl, by simp, by simp, by simp⟩ ?_
      rintro e H' ⟨rfl, h0, h6, h5⟩
      refine wpE_sound _ ?_
      simp [h0, h6, h5, hb, roomW, ha]
    · refine AWp.loop (fun e H' => H' = H ∧ e 0 = .ptr (.mu w) 0 ∧ e 1 = .int .i64 a ∧ ∃ i : Nat, e 6 = .int .i64 i ∧ i ≤ W.length ∧ e 5 = .int .i64 (8 - (((W.take i).filter (live a)).length : Nat))) (fun e _ => match e 6 with | .int _ i => ((W.length : Int) - i).toNat | _ => 0) ⟨rfl, by simp, by simp, 0, by simp, by omega, by simp⟩ ?_
      rintro e H' ⟨rfl, h0, h1, i, h6, hi, h5⟩
      refine wpE_sound _ ?_
      by_cases hlt : i < W.length
      · have hlt' : (i : Int) < (W.length : Int) := by omega
        have hw1 := i64_small ((i : Int) + 1) (by omega) (by omega)
        have hp : W[i]? = some W[i] := List.getElem?_eq_getElem hlt
        obtain ⟨t0, t1, t2, t3⟩ := ttV_get W i _ hp
        have hf := filter_take (p := live a) hp
        have hle := List.length_filter_le (live a) (W.take i)
        have hle2 : (W.take i).length ≤ 1000 := by rw [List.length_take]; omega
        have hw2 := i64_small (8 - (((W.take i).filter (live a)).length : Int) - 1) (by omega) (by omega)
        by_cases c1 : W[i].lb = a
        · cases c2 : W[i].gone with
          | true =>
            have hl : live a W[i] = false := by simp [live, c1, c2]
            rw [hl] at hf
            rw [c2] at t3
            simp [h0, h1, h6, h5, hb, hj, hlt, hlt', t0, t3, c1, hw1]
            exact ⟨⟨i + 1, by simp, by omega, by rw [hf]; simp⟩, by omega⟩
          | false =>
            have hl : live a W[i] = true := by simp [live, c1, c2]
            rw [hl] at hf
            rw [c2] at t3
            simp [h0, h1, h6, h5, hb, hj, hlt, hlt', t0, t3, c1, hw1, hw2]
            exact ⟨⟨i + 1, by simp, by omega, by rw [hf]; simp; omega⟩, by omega⟩
        · have hl : live a W[i] = false := by simp [live, c1]
          rw [hl] at hf
          simp [h0, h1, h6, h5, hb, hj, hlt, hlt', t0, c1, hw1]
          exact ⟨⟨i + 1, by simp, by omega, by rw [hf]; simp⟩, by omega⟩
      · obtain rfl : i = W.length := by omega
        rw [List.take_length] at h5
        simp [h0, h1, h6, h5, hb, roomW, ha]
/-- Where a text stands at first. -/
def fw : List TT → Int → Int → Option Nat
  | [], _, _ => none
  | t :: W, a, n => if hit a n t then some 0 else (fw W a n).map (· + 1)
theorem fw_none : ∀ {W : List TT} {a n : Int}, (∀ k, k < W.length → ∀ t, W[k]? = some t → hit a n t = false) → fw W a n = none
  | [], _, _, _ => rfl
  | t :: W, a, n, h => by
    rw [fw, if_neg (by rw [h 0 (by simp) t rfl]; simp), fw_none fun k hk q hq => h (k + 1) (by simpa using hk) q (by simpa using hq)]; rfl
theorem fw_some : ∀ {W : List TT} {a n : Int} {k : Nat} {t : TT}, W[k]? = some t → hit a n t = true → (∀ j, j < k → ∀ q, W[j]? = some q → hit a n q = false) → fw W a n = some k
  | [], _, _, _, _, h, _, _ => by simp at h
  | q :: W, a, n, 0, t, h, hp, _ => by simp at h; subst h; rw [fw, if_pos hp]
  | q :: W, a, n, k + 1, t, h, hp, hj => by
    rw [fw, if_neg (by rw [hj 0 (by omega) q rfl]; simp), fw_some (W := W) (k := k) (t := t) (by simpa using h) hp fun j hjk r hr => hj (j + 1) (by omega) r (by simpa using hr)]; rfl
theorem fw_get : ∀ {W : List TT} {a n : Int} {k : Nat}, fw W a n = some k → ∃ t, W[k]? = some t ∧ hit a n t = true
  | [], _, _, _, h => by cases h
  | q :: W, a, n, k, h => by
    rw [fw] at h
    split at h
    · cases h; exact ⟨q, rfl, ‹_›⟩
    · simp only [Option.map_eq_some_iff] at h
      obtain ⟨j, hj, rfl⟩ := h
      obtain ⟨p, h1, h2⟩ := fw_get hj
      exact ⟨p, by simpa using h1, h2⟩
theorem fw_not : ∀ {W : List TT} {a n : Int}, fw W a n = none → ∀ t ∈ W, hit a n t = false
  | [], _, _, _, t, ht => by cases ht
  | q :: W, a, n, h, t, ht => by
    rw [fw] at h
    split at h
    · cases h
    · rename_i hq
      simp only [Option.map_eq_none_iff] at h
      rcases List.mem_cons.1 ht with rfl | ht
      · simpa using hq
      · exact fw_not h t ht
set_option maxHeartbeats 2000000 in
theorem rfind_ok {H : AH} {w : Nat} {tv rv : AV} {W : List TT} (h : RAt H w tv rv W) (hW : W.length ≤ 1000) (a n : Int) : ACalls Tryd.prog R 34 [.ptr (.mu w) 0, .int .i64 a, .int .i64 n] H fun v H' => v = .int .i64 (fv (fw W a n)) ∧ H' = H := by
  have hb := h.box
  refine ACalls.of_wpE Fns.ok34 (by simp [Fns.a34]) ?_
  simp [Fns.a34]
  rcases h.rows with ⟨rfl, rfl⟩ | ⟨j, rfl, hj⟩
  · refine AWp.loop (fun e H' => H' = H ∧ e 0 = .ptr (.mu w) 0 ∧ e 7 = .int .i64 0) (fun _ _ => 0) ⟨rfl, by simp, by simp⟩ ?_
    rintro e H' ⟨rfl, h0, h7⟩
    refine wpE_sound _ ?_
    simp [h0, h7, hb, fw, fv]
  · refine AWp.loop (fun e H' => H' = H ∧ e 0 = .ptr (.mu w) 0 ∧ e 1 = .int .i64 a ∧ e 2 = .int .i64 n ∧ ∃ i : Nat, e 7 = .int .i64 i ∧ i ≤ W.length ∧ ∀ k, k < i → ∀ t, W[k]? = some t → hit a n t = false) (fun e _ => match e 7 with | .int _ i => ((W.length : Int) - i).toNat | _ => 0) ⟨rfl, by simp, by simp, by simp, 0, by simp, by omega, fun k hk => by omega⟩ ?_
    rintro e H' ⟨rfl, h0, h1, h2, i, h7, hi, hno⟩
    refine wpE_sound _ ?_
    by_cases hlt : i < W.length
    · have hlt' : (i : Int) < (W.length : Int) := by omega
      have hw1 := i64_small ((i : Int) + 1) (by omega) (by omega)
      have hp : W[i]? = some W[i] := List.getElem?_eq_getElem hlt
      obtain ⟨t0, t1, t2, t3⟩ := ttV_get W i _ hp
      have next : hit a n W[i] = false → ∀ k, k < i + 1 → ∀ t, W[k]? = some t → hit a n t = false := fun hh k hk t ht => by
        by_cases hki : k = i
        · subst hki; rw [hp] at ht; cases ht; exact hh
        · exact hno k (by omega) t ht
      by_cases c1 : W[i].lb = a
      · by_cases c3 : W[i].n = n
        · cases c2 : W[i].gone with
          | true =>
            have hl : hit a n W[i] = false := by simp [hit, c1, c2]
            rw [c2] at t3
            simp [h0, h1, h2, h7, hb, hj, hlt, hlt', t0, t1, t3, c1, c3, hw1]
            exact ⟨⟨i + 1, by simp, by omega, next hl⟩, by omega⟩
          | false =>
            have hl : hit a n W[i] = true := by simp [hit, c1, c2, c3]
            rw [c2] at t3
            simp [h0, h1, h2, h7, hb, hj, hlt, hlt', t0, t1, t3, c1, c3, hw1, fw_some hp hl hno, fv]
        · have hl : hit a n W[i] = false := by simp [hit, c3]
          simp [h0, h1, h2, h7, hb, hj, hlt, hlt', t0, t1, c1, c3, hw1]
          exact ⟨⟨i + 1, by simp, by omega, next hl⟩, by omega⟩
      · have hl : hit a n W[i] = false := by simp [hit, c1]
        simp [h0, h1, h2, h7, hb, hj, hlt, hlt', t0, c1, hw1]
        exact ⟨⟨i + 1, by simp, by omega, next hl⟩, by omega⟩
    · obtain rfl : i = W.length := by omega
      simp [h0, h1, h2, h7, hb, fw_none hno, fv]
def getW (W : List TT) (a n : Int) : Option (List UInt8) := match fw W a n with
  | some k => (W[k]?).map TT.s
  | none => none
theorem rget_ok {H : AH} {w : Nat} {tv rv : AV} {W : List TT} (h : RAt H w tv rv W) (hW : W.length ≤ 1000) (a n : Int) : ACalls Tryd.prog R 35 [.ptr (.mu w) 0, .int .i64 a, .int .i64 n] H fun v H' => v = .tuple [.str ((getW W a n).getD []), .bool (getW W a n).isSome] ∧ H' = H := by
  have hb := h.box
  refine ACalls.of_wpE Fns.ok35 (by simp [Fns.a35]) ?_
  simp [Fns.a35]
  refine (rfind_ok h hW a n).mono ?_
  rintro v H ⟨rfl, rfl⟩
  cases hf : fw W a n with
  | none => simp [fv, getW, hf]
  | some k =>
    obtain ⟨t, ht, _⟩ := fw_get hf
    obtain ⟨t0, t1, t2, t3⟩ := ttV_get W k _ ht
    have hkl := (List.getElem?_eq_some_iff.1 ht).1
    have hkl' : (k : Int) < (W.length : Int) := by omega
    have hk0 : ¬ (k : Int) < 0 := by omega
    rcases h.rows with ⟨rfl, rfl⟩ | ⟨j, rfl, hj⟩
    · simp at hkl
    · simp [fv, hb, hj, hkl, hkl', hk0, t2, getW, hf]
      rw [(List.getElem?_eq_some_iff.1 ht).2]
end Go.Proofs.YtjncbipaikmogaaDoor.Bf
namespace Go.Proofs.YtjncbipaikmogaaDoor.Bf
open Go Go.RowKit Am Latt
set_option maxRecDepth 100000
set_option linter.unusedSimpArgs false
set_option linter.unusedVariables false
attribute [-simp] Am.binEv Am.intBin Am.read1
attribute [local simp] binEv_lss binEv_leq binEv_gtr binEv_geq binEv_eql binEv_neq binEv_add binEv_sub binEv_mul binEv_shr58 read1_ro read1_mu
variable {R : Ro}
def cntW (W : List TT) (a : Int) : Nat := (W.filter fun t => decide (t.lb = a)).length
def putW (n : Nat) (W : List TT) (a : Int) (s : List UInt8) : (Int × Int) × List TT :=
  if isL n a then (if 4096 < s.length then ((0, 3), W) else if roomW n W a = 0 then ((0, 6), W) else ((cntW W a, 0), W ++ [⟨a, cntW W a, s, false⟩])) else ((0, 1), W)
def dropW (n : Nat) (W : List TT) (a m : Int) : Int × List TT :=
  if isL n a then match fw W a m with
    | none => (4, W)
    | some k => match W[k]? with
      | some t => (0, W.set k { t with gone := true })
      | none => (4, W)
  else (1, W)
/-- What is its own. -/
def OwnR (w : Nat) (rv : AV) (i : Nat) : Prop := i = w ∨ ∃ o n c, rv = .slice (.mu i) o n c
theorem RAt.frame {H H' : AH} {w : Nat} {tv rv : AV} {W : List TT} (h : RAt H w tv rv W) (hf : ∀ i, OwnR w rv i → H'[i]? = H[i]?) : RAt H' w tv rv W := ⟨by rw [hf w (.inl rfl)]; exact h.box, h.row.frame fun j hj => hf j (.inr ⟨_, _, _, hj⟩)⟩
theorem RAt.kind {H : AH} {w : Nat} {tv rv : AV} {W : List TT} (h : RAt H w tv rv W) {i : Nat} (hi : OwnR w rv i) : (∃ c, H[i]? = some (.cells c 36)) ∨ ∃ c, H[i]? = some (.row c 93 4) := by
  rcases hi with rfl | ⟨o, n, c, rfl⟩
  · exact .inl ⟨_, h.box⟩
  · rcases h.rows with ⟨e, _⟩ | ⟨j, e, hj⟩
    · cases e
    · cases e; exact .inr ⟨_, hj⟩
theorem RAt.lt {H : AH} {w : Nat} {tv rv : AV} {W : List TT} (h : RAt H w tv rv W) {i : Nat} (hi : OwnR w rv i) : i < H.length := by
  rcases h.kind hi with ⟨_, e⟩ | ⟨_, e⟩ <;> exact (List.getElem?_eq_some_iff.1 e).1
def MovedR (H H' : AH) (w : Nat) (rv rv' : AV) : Prop := H.length ≤ H'.length ∧ (∀ i, i < H.length → ¬ OwnR w rv i → H'[i]? = H[i]?) ∧ ∀ i, OwnR w rv' i → OwnR w rv i ∨ H.length ≤ i
theorem MovedR.refl (H : AH) (w : Nat) (rv : AV) : MovedR H H w rv rv := ⟨Nat.le_refl _, fun _ _ _ => rfl, fun _ h => .inl h⟩
set_option maxHeartbeats 4000000 in
theorem rput_ok {H : AH} {w : Nat} {tv rv : AV} {W : List TT} {T : List (List Bool)} (h : RAt H w tv rv W) (ht : TabIn R H tv T) (htv : tv.oneCell = true) (hW : W.length ≤ 900) (a : Int) (s : List UInt8) :
    ACalls Tryd.prog R 12 [.ptr (.mu w) 0, .int .i64 a, .str s] H fun v H' => ∃ rv', v = .tuple [.int .i64 (putW T.length W a s).1.1, .int .i64 (putW T.length W a s).1.2] ∧ RAt H' w tv rv' (putW T.length W a s).2 ∧ MovedR H H' w rv rv' := by
  have hb := h.box
  refine ACalls.of_wpE Fns.ok12 (by simp [Fns.a12]) ?_
  simp [Fns.a12]
  refine (rlabel_ok h ht a).mono ?_
  rintro v H ⟨rfl, rfl⟩
  cases ha : isL T.length a with
  | false =>
    have e : putW T.length W a s = ((0, 1), W) := by simp [putW, ha]
    rw [e]
    simp
    exact ⟨_, h, MovedR.refl ..⟩
  | true =>
    by_cases h4 : 4096 < s.length
    · have h4' : (4096 : Int) < (s.length : Int) := by omega
      have e : putW T.length W a s = ((0, 3), W) := by simp [putW, ha, h4]
      rw [e]
      simp [h4, h4']
      exact ⟨_, h, MovedR.refl ..⟩
    have h4' : ¬ (4096 : Int) < (s.length : Int) := by omega
    simp [h4, h4']
    refine (rroom_ok h ht (by omega) a).mono ?_
    rintro v H ⟨rfl, rfl⟩
    by_cases hr : roomW T.length W a = 0
    · have e : putW T.length W a s = ((0, 6), W) := by simp [putW, ha, h4, hr]
      rw [e]
      simp [hr]
      exact ⟨_, h, MovedR.refl ..⟩
    have e : putW T.length W a s = ((((cntW W a : Nat) : Int), 0), W ++ [⟨a, (cntW W a : Nat), s, false⟩]) := by simp [putW, ha, h4, hr]
    rw [e]
    have hwl := h.lt (.inl rfl)
    have hcl : cntW W a ≤ W.length := List.length_filter_le _ _
    have hcw := i64_small (cntW W a : Int) (by omega) (by omega)
    -- the last part
    have hV : (H ++ [AO.cells [.int .i64 a, .int .i64 (cntW W a : Nat), .str s, .bool false] 93])[H.length]? = some (.cells [.int .i64 a, .int .i64 (cntW W a : Nat), .str s, .bool false] 93) := by simp
    have hrow1 : RowAt (H ++ [AO.cells [.int .i64 a, .int .i64 (cntW W a : Nat), .str s, .bool false] 93]) rv W.length 4 93 (ttV W) := h.row.frame fun j hj => by
      rw [List.getElem?_append_left (h.lt (.inr ⟨_, _, _, hj⟩))]
    obtain ⟨G, hG, hGl, hGr, hGf⟩ := append_row (R := R) (x := .slice (.mu H.length) 0 1 (.known 1)) (m := 1) (by' := 40) hrow1 (src_cells hV rfl) (by omega) (by omega) (by omega) (by omega) rfl rfl
    simp only [List.length_append, List.length_cons, List.length_nil, Nat.zero_add] at hG hGl hGr hGf
    have hGw : G[w]? = some (.cells [tv, rv] 36) := by
      have hne : ∀ (o l : Nat) (c : Cap), rv ≠ .slice (.mu w) o l c := fun o l c e => by
        rcases h.rows with ⟨e2, _⟩ | ⟨j, e2, hj⟩
        · rw [e2] at e; cases e
        · rw [e2] at e; cases e
          rw [hb] at hj; cases hj
      rw [hGf w (by omega) hne, List.getElem?_append_left hwl]
      exact hb
    have hwG : w < G.length := by omega
    have hfin : RAt (G.set w (.cells [tv, .slice (.mu (H.length + 1)) 0 (W.length + 1) (.opn 0)] 36)) w tv (.slice (.mu (H.length + 1)) 0 (W.length + 1) (.opn 0)) (W ++ [⟨a, cntW W a, s, false⟩]) ∧ MovedR H (G.set w (.cells [tv, .slice (.mu (H.length + 1)) 0 (W.length + 1) (.opn 0)] 36)) w rv (.slice (.mu (H.length + 1)) 0 (W.length + 1) (.opn 0)) := by
      refine ⟨⟨List.getElem?_set_self hwG, ?_⟩, by rw [List.length_set]; omega, fun i hi hno => ?_, ?_⟩
      · have e2 : ttV (W ++ [⟨a, cntW W a, s, false⟩]) = ttV W ++ [.int .i64 a, .int .i64 (cntW W a : Nat), .str s, .bool false] := by rw [ttV_app]; rfl
        rw [e2, List.length_append]
        refine hGr.frame fun j hj => ?_
        cases hj
        rw [List.getElem?_set_ne (by omega)]
      · rw [List.getElem?_set_ne (fun e => hno (.inl e.symm)), hGf i (by omega) fun o l c e => hno (.inr ⟨o, l, c, e⟩), List.getElem?_append_left hi]
      · rintro i (rfl | ⟨o, n, c, e⟩)
        · exact .inl (.inl rfl)
        · cases e; exact .inr (by omega)
    have tail : ∀ (e : Env), e 0 = .ptr (.mu w) 0 → e 1 = .int .i64 a → e 2 = .str s → e 8 = .int .i64 (cntW W a : Nat) → True := fun _ _ _ _ _ => trivial
    simp [hr]
    rcases h.rows with ⟨rfl, rfl⟩ | ⟨j, rfl, hj⟩
    · refine AWp.loop (fun e H' => H' = H ∧ e 0 = .ptr (.mu w) 0 ∧ e 1 = .int .i64 a ∧ e 2 = .str s ∧ e 9 = .int .i64 0 ∧ e 8 = .int .i64 0) (fun _ _ => 0) ⟨rfl, by simp, by simp, by simp, by simp, by simp⟩ ?_
      rintro e H' ⟨rfl, h0, h1, h2, h9, h8⟩
      refine wpE_sound _ ?_
      have hc0 : cntW [] a = 0 := rfl
      rw [hc0] at hG hfin
      simp at hG hfin
      simp [h0, h1, h2, h9, h8, hb, fillA, splice, zerosEv, AV.oneCell, hG, hGw, writeN, AO.content, AO.withContent, hc0]
      exact ⟨_, hfin⟩
    · refine AWp.loop (fun e H' => H' = H ∧ e 0 = .ptr (.mu w) 0 ∧ e 1 = .int .i64 a ∧ e 2 = .str s ∧ ∃ i : Nat, e 9 = .int .i64 i ∧ i ≤ W.length ∧ e 8 = .int .i64 (cntW (W.take i) a : Nat)) (fun e _ => match e 9 with | .int _ i => ((W.length : Int) - i).toNat | _ => 0) ⟨rfl, by simp, by simp, by simp, 0, by simp, by omega, by simp [cntW]⟩ ?_
      rintro e H' ⟨rfl, h0, h1, h2, i, h9, hi, h8⟩
      refine wpE_sound _ ?_
      by_cases hlt : i < W.length
      · have hlt' : (i : Int) < (W.length : Int) := by omega
        have hw1 := i64_small ((i : Int) + 1) (by omega) (by omega)
        have hp : W[i]? = some W[i] := List.getElem?_eq_getElem hlt
        obtain ⟨t0, t1, t2, t3⟩ := ttV_get W i _ hp
        have hf := filter_take (p := fun t => decide (t.lb = a)) hp
        have hle : cntW (W.take i) a ≤ (W.take i).length := List.length_filter_le _ _
        have hle2 : (W.take i).length ≤ 900 := by rw [List.length_take]; omega
        have hw2 := i64_small ((cntW (W.take i) a : Int) + 1) (by omega) (by omega)
        by_cases c1 : W[i].lb = a
        · rw [if_pos (by simpa using c1)] at hf
          simp [h0, h1, h2, h9, h8, hb, hj, hlt, hlt', t0, c1, hw1, hw2]
          refine ⟨⟨i + 1, by simp, by omega, ?_⟩, by omega⟩
          unfold cntW
          rw [hf]; simp
        · rw [if_neg (by simpa using c1)] at hf
          simp [h0, h1, h2, h9, h8, hb, hj, hlt, hlt', t0, c1, hw1]
          refine ⟨⟨i + 1, by simp, by omega, ?_⟩, by omega⟩
          unfold cntW
          rw [hf]; simp
      · obtain rfl : i = W.length := by omega
        rw [List.take_length] at h8
        simp [h0, h1, h2, h9, h8, hb, fillA, splice, zerosEv, AV.oneCell, hG, hGw, writeN, AO.content, AO.withContent]
        exact ⟨_, hfin⟩
set_option maxHeartbeats 2000000 in
theorem rdrop_ok {H : AH} {w : Nat} {tv rv : AV} {W : List TT} {T : List (List Bool)} (h : RAt H w tv rv W) (ht : TabIn R H tv T) (hW : W.length ≤ 900) (a n : Int) :
    ACalls Tryd.prog R 14 [.ptr (.mu w) 0, .int .i64 a, .int .i64 n] H fun v H' => v = .int .i64 (dropW T.length W a n).1 ∧ RAt H' w tv rv (dropW T.length W a n).2 ∧ MovedR H H' w rv rv := by
  have hb := h.box
  refine ACalls.of_wpE Fns.ok14 (by simp [Fns.a14]) ?_
  simp [Fns.a14]
  refine (rlabel_ok h ht a).mono ?_
  rintro v H ⟨rfl, rfl⟩
  cases ha : isL T.length a with
  | false =>
    have e : dropW T.length W a n = (1, W) := by simp [dropW, ha]
    rw [e]
    simp
    exact ⟨h, MovedR.refl ..⟩
  | true =>
    simp
    refine (rfind_ok h (by omega) a n).mono ?_
    rintro v H ⟨rfl, rfl⟩
    cases hf : fw W a n with
    | none =>
      have e : dropW T.length W a n = (4, W) := by simp [dropW, ha, hf]
      rw [e]
      simp [fv]
      exact ⟨h, MovedR.refl ..⟩
    | some k =>
      obtain ⟨t, hk, _⟩ := fw_get hf
      have hkl := (List.getElem?_eq_some_iff.1 hk).1
      have hkl' : (k : Int) < (W.length : Int) := by omega
      have hk0 : ¬ (k : Int) < 0 := by omega
      have e : dropW T.length W a n = (0, W.set k { t with gone := true }) := by simp [dropW, ha, hf, hk]
      rw [e]
      rcases h.rows with ⟨rfl, rfl⟩ | ⟨j, rfl, hj⟩
      · simp at hkl
      · have hjl := (List.getElem?_eq_some_iff.1 hj).1
        have hjw : j ≠ w := fun e => by subst e; rw [hb] at hj; cases hj
        have hlen := ttV_len W
        have hsp : splice (ttV W) (k * 4 + 3) [.bool true] = ttV (W.set k { t with gone := true }) := by
          rw [splice_one (by omega), ttV_set W k t hk]
        have hle : k * 4 + 3 + 1 ≤ (ttV W).length := by omega
        simp [fv, hb, hj, hkl, hkl', hk0, writeN, AO.content, AO.withContent, hsp, hle]
        refine ⟨⟨by rw [List.getElem?_set_ne hjw]; exact hb, .inr ⟨j, by simp, List.getElem?_set_self hjl, ttV_len _⟩⟩, by simp, fun i hi hno => ?_, fun i hi => .inl hi⟩
        rw [List.getElem?_set_ne fun e => hno (.inr ⟨_, _, _, by rw [e]⟩)]
end Go.Proofs.YtjncbipaikmogaaDoor.Bf
namespace Go.Proofs.YtjncbipaikmogaaDoor.Bf
open Go Go.RowKit Am Latt
set_option maxRecDepth 100000
set_option linter.unusedSimpArgs false
set_option linter.unusedVariables false
attribute [-simp] Am.binEv Am.intBin Am.read1
attribute [local simp] binEv_lss binEv_leq binEv_gtr binEv_geq binEv_eql binEv_neq binEv_add binEv_sub binEv_mul binEv_shr58 read1_ro read1_mu
variable {R : Ro}
def namesW (W : List TT) (a : Int) : List Int := ((W.filter (live a)).reverse).map TT.n
def intsV (l : List Int) : List AV := l.map fun z => .int .i64 z
theorem names_drop {W : List TT} {a : Int} {m : Nat} {t : TT} (h : W[m]? = some t) : namesW (W.drop m) a = namesW (W.drop (m + 1)) a ++ if live a t then [t.n] else [] := by
  obtain ⟨hm, rfl⟩ := List.getElem?_eq_some_iff.1 h
  rw [List.drop_eq_getElem_cons hm]
  unfold namesW
  rw [List.filter_cons]
  split <;> simp
theorem names_le (W : List TT) (a : Int) : (namesW W a).length ≤ W.length := by
  unfold namesW
  rw [List.length_map, List.length_reverse]
  exact List.length_filter_le _ _
theorem RAt.keeps {H H' : AH} {w : Nat} {tv rv : AV} {W : List TT} (h : RAt H w tv rv W) (hk : Keeps H H') : RAt H' w tv rv W := h.frame fun i hi => hk.2 i (h.lt hi)
/-- Some elements laid out, and put behind. -/
theorem rowOwn_pushM {H0 H : AH} {v : AV} {k m sz by' : Nat} {t t' : TypeId} {C new : List AV} (h : RowOwn H0 H v k sz t C) (hm : 0 < m) (hsz : sz ≠ 0) (hby : by' ≠ 0) (hfit : (k + m) * by' ≤ 140737488355328) (hone : new.all AV.oneCell = true) (hlen : new.length = m * sz) (cap : Cap) :
    ∃ G, appendEv R (H ++ [.cells new t']) t sz by' v (.slice (.mu H.length) 0 m cap) = some (.slice (.mu (H.length + 1)) 0 (k + m) (.opn 0), G) ∧ RowOwn H0 G (.slice (.mu (H.length + 1)) 0 (k + m) (.opn 0)) (k + m) sz t (C ++ new) ∧
      G.length = H.length + 2 ∧ ∀ i, i < H.length → (∀ o l c, v ≠ .slice (.mu i) o l c) → G[i]? = H[i]? := by
  have h1 := h.more (Keeps.app H [.cells new t'])
  obtain ⟨G, hG, hl, hr, hf⟩ := append_row (R := R) (by' := by') h1.row (src_cells (s := H.length) (m := m) (c := new) (t := t') (cap := cap) (by simp) hlen) hm hsz hby hfit hone hlen
  simp only [List.length_append, List.length_cons, List.length_nil, Nat.zero_add] at hG hl hr hf
  refine ⟨G, hG, ⟨hr, fun i o ln cp e => ?_, ⟨by rw [hl]; have := h.keeps.1; omega, fun i hi => ?_⟩⟩, by omega, fun i hi hne => by rw [hf i (by omega) hne, List.getElem?_append_left hi]⟩
  · simp only [AV.slice.injEq, Am.Loc.mu.injEq] at e
    have := h.keeps.1
    omega
  · have := h.keeps.1
    rw [hf i (by omega) (fun o l c e => by have := h.low i o l c e; omega), List.getElem?_append_left (by omega)]
    exact h.keeps.2 i hi
set_option maxHeartbeats 4000000 in
theorem rnames_ok {H : AH} {w : Nat} {tv rv : AV} {W : List TT} (h : RAt H w tv rv W) (hW : W.length ≤ 900) (a : Int) : ACalls Tryd.prog R 36 [.ptr (.mu w) 0, .int .i64 a] H fun v H' => RowOwn H H' v (namesW W a).length 1 3 (intsV (namesW W a)) := by
  have hb := h.box
  refine ACalls.of_wpE Fns.ok36 (by simp [Fns.a36]) ?_
  have hwm := i64_small ((W.length : Int) - 1) (by omega) (by omega)
  have hstart : IntKind.i64.wrap (-1) = -1 := by decide
  have key : ∀ e : Env, e 0 = .ptr (.mu w) 0 → e 1 = .int .i64 a → e 5 = .nilslice → e 6 = .int .i64 ((W.length : Int) - 1) → True := fun _ _ _ _ _ => trivial
  simp [Fns.a36, hb]
  rcases h.rows with ⟨rfl, rfl⟩ | ⟨j, rfl, hj⟩
  · simp [hstart]
    refine AWp.loop (fun e H' => H' = H ∧ e 6 = .int .i64 (-1) ∧ e 5 = .nilslice) (fun _ _ => 0) ⟨rfl, by simp, by simp⟩ ?_
    rintro e H' ⟨rfl, h6, h5⟩
    refine wpE_sound _ ?_
    simp [h6, h5, namesW, intsV]
    exact RowOwn.nil H' 1 3
  · simp [hwm]
    refine AWp.loop (fun e H' => e 0 = .ptr (.mu w) 0 ∧ e 1 = .int .i64 a ∧ ∃ i : Nat, e 6 = .int .i64 ((i : Int) - 1) ∧ i ≤ W.length ∧ RowOwn H H' (e 5) (namesW (W.drop i) a).length 1 3 (intsV (namesW (W.drop i) a))) (fun e _ => match e 6 with | .int _ i => (i + 1).toNat | _ => 0) ⟨by simp, by simp, W.length, by simp, by omega, by simpa [namesW, intsV] using RowOwn.nil H 1 3⟩ ?_
    rintro e H' ⟨h0, h1, i, h6, hi, hrow⟩
    refine wpE_sound _ ?_
    have hr := h.keeps hrow.keeps
    have hb' := hr.box
    have hj' : H'[j]? = some (.row (ttV W) 93 4) := by rw [hrow.keeps.2 j (List.getElem?_eq_some_iff.1 hj).1]; exact hj
    cases i with
    | zero =>
      rw [List.drop_zero] at hrow
      simp [h0, h1, h6]
      exact hrow
    | succ m =>
      have hml : m < W.length := by omega
      have hp : W[m]? = some W[m] := List.getElem?_eq_getElem hml
      obtain ⟨t0, t1, t2, t3⟩ := ttV_get W m _ hp
      have hnm := names_drop (a := a) hp
      have h6' : e 6 = .int .i64 (m : Int) := by rw [h6]; congr 1; omega
      have hw1 := i64_small ((m : Int) - 1) (by omega) (by omega)
      have hnl := names_le (W.drop (m + 1)) a
      have hdl : (W.drop (m + 1)).length ≤ 900 := by rw [List.length_drop]; omega
      by_cases c1 : W[m].lb = a
      · cases c2 : W[m].gone with
        | true =>
          have hl : live a W[m] = false := by simp [live, c1, c2]
          rw [hl] at hnm
          rw [c2] at t3
          simp [h0, h1, h6', hb', hj', hml, t0, t3, c1, hw1]
          exact ⟨m, by simp, by omega, by rw [hnm]; simpa using hrow⟩
        | false =>
          have hl : live a W[m] = true := by simp [live, c1, c2]
          rw [hl] at hnm
          rw [c2] at t3
          obtain ⟨G, hG, hrow2, _, _⟩ := hrow.push (R := R) (by' := 8) (t' := 3) (new := [.int .i64 W[m].n]) (by omega) (by omega) (by omega) (by simp [AV.oneCell]) rfl (.known 1)
          simp [h0, h1, h6', hb', hj', hml, t0, t1, t3, c1, hw1, fillA, splice, zerosEv, AV.oneCell, hG]
          exact ⟨m, by simp, by omega, by rw [hnm]; simpa [intsV] using hrow2⟩
      · have hl : live a W[m] = false := by simp [live, c1]
        rw [hl] at hnm
        simp [h0, h1, h6', hb', hj', hml, t0, c1, hw1]
        exact ⟨m, by simp, by omega, by rw [hnm]; simpa using hrow⟩
/-- Labels and numbers, by turns. -/
def pairs (a : Int) (l : List Int) : List Int := l.flatMap fun n => [a, n]
def seenW (T : List (List Bool)) (W : List TT) (x : Int) (k : Nat) : List Int := (List.range k).flatMap fun (a : Nat) => if tbI T a x then pairs a (namesW W a) else []
theorem seenW_succ (T : List (List Bool)) (W : List TT) (x : Int) (k : Nat) : seenW T W x (k + 1) = seenW T W x k ++ if tbI T k x then pairs k (namesW W k) else [] := by
  unfold seenW
  rw [List.range_succ, List.flatMap_append]
  simp
theorem pairs_len (a : Int) (l : List Int) : (pairs a l).length = 2 * l.length := by
  induction l with
  | nil => rfl
  | cons z l ih => unfold pairs at ih ⊢; simp [ih]; omega
theorem seenW_le (T : List (List Bool)) (W : List TT) (x : Int) : ∀ k, (seenW T W x k).length ≤ 2 * W.length * k
  | 0 => by simp [seenW]
  | k + 1 => by
    have h1 := seenW_le T W x k
    have h2 := names_le W k
    rw [seenW_succ, List.length_append]
    have h3 : (if tbI T k x then pairs k (namesW W k) else []).length ≤ 2 * W.length := by
      split
      · rw [pairs_len]; omega
      · simp
    rw [Nat.mul_succ]; omega
set_option maxHeartbeats 4000000 in
theorem rseen_ok {H : AH} {w : Nat} {tv rv : AV} {W : List TT} {T : List (List Bool)} (h : RAt H w tv rv W) (ht : ∀ H, TabIn R H tv T) (hsq : SqT T) (hT : T.length ≤ 64) (hW : W.length ≤ 900) (x : Int) :
    ACalls Tryd.prog R 37 [.ptr (.mu w) 0, .int .i64 x] H fun v H' => RowOwn H H' v (seenW T W x T.length).length 1 3 (intsV (seenW T W x T.length)) := by
  have hb := h.box
  refine ACalls.of_wpE Fns.ok37 (by simp [Fns.a37]) ?_
  simp [Fns.a37]
  have hlen : ∀ (e : Env) (H' : AH), (AOp.lenL (.t 0)).eval Tryd.prog R (fun _ => tv) H' = some (.int .i64 T.length, H') := fun e H' => by
    rcases (ht H').lenEv with ⟨rfl, h0⟩ | ⟨l, off, cap, rfl⟩
    · simp [h0]
    · simp
  refine AWp.loop (fun e H' => e 0 = .ptr (.mu w) 0 ∧ e 1 = .int .i64 x ∧ ∃ k : Nat, e 6 = .int .i64 k ∧ k ≤ T.length ∧ RowOwn H H' (e 5) (seenW T W x k).length 1 3 (intsV (seenW T W x k))) (fun e _ => match e 6 with | .int _ i => ((T.length : Int) - i).toNat | _ => 0) ⟨by simp, by simp, 0, by simp, by omega, by simpa [seenW, intsV] using RowOwn.nil H 1 3⟩ ?_
  rintro e H' ⟨h0, h1, k, h6, hk, hrow⟩
  refine wpE_sound _ ?_
  have hr := h.keeps hrow.keeps
  have hb' := hr.box
  have hl := hlen e H'
  simp only [AOp.eval, X.ev] at hl
  by_cases hkl : k < T.length
  · have hkl' : (k : Int) < (T.length : Int) := by omega
    have hw1 := i64_small ((k : Int) + 1) (by omega) (by omega)
    have hsu := seenW_succ T W x k
    simp [h0, h1, h6, hb', hl, hkl, hkl']
    refine (rbelow_ok (ht H') hsq k x).mono ?_
    rintro v H' ⟨rfl, rfl⟩
    cases hbl : tbI T k x with
    | false =>
      rw [hbl] at hsu
      simp [h0, h1, h6, hw1]
      exact ⟨⟨k + 1, by simp, by omega, by rw [hsu]; simpa using hrow⟩, by omega⟩
    | true =>
      rw [hbl] at hsu
      simp [h0, h1, h6]
      refine (rnames_ok hr hW k).mono ?_
      rintro v H2 hn
      have hnl := names_le W k
      have hsl := seenW_le T W x k
      have hsl2 : 2 * W.length * k ≤ 115200 := Nat.le_trans (Nat.mul_le_mul (Nat.mul_le_mul_left 2 hW) (show k ≤ 64 by omega)) (by decide)
      generalize namesW W k = N at hn hnl hsu
      have hlv : (AOp.lenL (.t 0)).eval Tryd.prog R (fun _ => v) H2 = some (.int .i64 N.length, H2) := by
        rcases hn.row with ⟨rfl, h0, _⟩ | ⟨j, rfl, _⟩
        · simp [h0]
        · simp
      simp only [AOp.eval, X.ev] at hlv
      have hlowE : ∀ i o l c, e 5 = .slice (.mu i) o l c → i < H'.length := fun i o l c he => by
        rcases hrow.row with ⟨e1, _⟩ | ⟨q, e1, e2, _⟩
        · rw [he] at e1; cases e1
        · rw [he] at e1; cases e1
          exact (List.getElem?_eq_some_iff.1 e2).1
      simp [h0, h1, h6]
      refine AWp.loop (fun e' H3 => e' 0 = .ptr (.mu w) 0 ∧ e' 1 = .int .i64 x ∧ e' 6 = .int .i64 k ∧ e' 7 = v ∧ RowAt H3 v N.length 1 3 (intsV N) ∧ (∀ i o l c o' l' c', e' 5 = .slice (.mu i) o l c → v ≠ .slice (.mu i) o' l' c') ∧
          ∃ m : Nat, e' 8 = .int .i64 m ∧ m ≤ N.length ∧ RowOwn H H3 (e' 5) ((seenW T W x k).length + 2 * m) 1 3 (intsV (seenW T W x k ++ pairs k (N.take m)))) (fun e _ => match e 8 with | .int _ i => ((N.length : Int) - i).toNat | _ => 0)
        ⟨by simp [h0], by simp [h1], by simp [h6], by simp, hn.row, fun i o l c o' l' c' he hv => by
          simp at he
          have h3 := hlowE i o l c he
          have h4 := hn.low i o' l' c' hv
          omega, 0, by simp, by omega, by simpa [pairs] using hrow.more hn.keeps⟩ ?_
      rintro e' H3 ⟨g0, g1, g6, g7, gv, gne, m, g8, hm, hrow'⟩
      refine wpE_sound _ ?_
      have hlv3 : (AOp.lenL (.t 0)).eval Tryd.prog R (fun _ => v) H3 = some (.int .i64 N.length, H3) := by
        rcases gv with ⟨rfl, h0, _⟩ | ⟨j, rfl, _⟩
        · simp [h0]
        · simp
      simp only [AOp.eval, X.ev] at hlv3
      by_cases hml : m < N.length
      · have hml' : (m : Int) < (N.length : Int) := by omega
        have hw2 := i64_small ((m : Int) + 1) (by omega) (by omega)
        obtain ⟨q, rfl, hq⟩ : ∃ q, v = .slice (.mu q) 0 N.length (.opn 0) ∧ H3[q]? = some (.row (intsV N) 3 1) := by
          rcases gv with ⟨_, h0, _⟩ | ⟨q, h1, h2, _⟩
          · omega
          · exact ⟨q, h1, h2⟩
        have hql := (List.getElem?_eq_some_iff.1 hq).1
        have hp : N[m]? = some N[m] := List.getElem?_eq_getElem hml
        have hrd : (intsV N)[m]? = some (.int .i64 N[m]) := by simp [intsV, hp]
        have htk : pairs k (N.take (m + 1)) = pairs k (N.take m) ++ [(k : Int), N[m]] := by
          unfold pairs
          rw [List.take_add_one, hp, Option.toList_some, List.flatMap_append]
          simp
        obtain ⟨G, hG, hrow2, hGl, hGf⟩ := rowOwn_pushM (R := R) hrow' (m := 2) (by' := 8) (t' := 3) (new := [.int .i64 (k : Int), .int .i64 N[m]]) (by omega) (by omega) (by omega) (by omega) (by simp [AV.oneCell]) rfl (.known 2)
        have hqG : G[q]? = some (.row (intsV N) 3 1) := by rw [hGf q hql fun o l c he => gne q o l c _ _ _ he rfl]; exact hq
        simp [g0, g1, g6, g7, g8, hml, hml', hq, hrd, hw2, fillA, splice, zerosEv, AV.oneCell, hG]
        refine ⟨⟨.inr ⟨q, rfl, hqG, by simp [intsV]⟩, by omega, m + 1, by simp, by omega, ?_⟩, by omega⟩
        have e2 : (seenW T W x k).length + 2 * m + 2 = (seenW T W x k).length + 2 * (m + 1) := by omega
        rw [htk, ← e2]
        simpa [intsV] using hrow2
      · obtain rfl : m = N.length := by omega
        rw [List.take_length] at hrow'
        simp [g0, g1, g6, g7, g8, hlv3, hw1]
        refine ⟨⟨k + 1, by simp, by omega, ?_⟩, by omega⟩
        rw [hsu]
        simpa [pairs_len] using hrow'
  · obtain rfl : k = T.length := by omega
    simp [h0, h1, h6, hb', hl]
    exact hrow
end Go.Proofs.YtjncbipaikmogaaDoor.Bf
