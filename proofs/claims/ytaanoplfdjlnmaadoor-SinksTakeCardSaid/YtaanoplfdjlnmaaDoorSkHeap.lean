/- Sinks, as they lie there. -/
import Derived.Test.YtaanoplfdjlnmaaDoorNobody
import Derived.Test.YtaanoplfdjlnmaaDoorLatGood
import Derived.Test.YtaanoplfdjlnmaaDoorLatLook
import Derived.Test.YtaanoplfdjlnmaaDoorAmApp
import Derived.Test.YtaanoplfdjlnmaaDoorAmFlat
import Derived.Test.YtaanoplfdjlnmaaDoorAmInts
import Derived.Test.YtaanoplfdjlnmaaDoorAmSched
namespace Go.Proofs.YtaanoplfdjlnmaaDoor.Sk
open Go Go.RowKit Am Latt
set_option maxRecDepth 100000
set_option linter.unusedSimpArgs false
set_option linter.unusedVariables false
attribute [-simp] Am.binEv Am.intBin Am.read1
attribute [local simp] binEv_lss binEv_leq binEv_gtr binEv_geq binEv_eql binEv_neq binEv_add binEv_sub binEv_mul binEv_shr58 read1_ro read1_mu
variable {R : Ro}
structure SK where
  label : Int
  room : Int
  content : List UInt8
  came : Int → Int
def bytesV (b : List UInt8) : List AV := b.map fun x => .int .u8 x.toNat
theorem bytesV_len (b : List UInt8) : (bytesV b).length = b.length := by simp [bytesV]
/-- One sink. -/
structure One (H : AH) (C : List AV) (i : Nat) (x : SK) (cv : AV) (m : Nat) : Prop where
  c0 : C[i * 4]? = some (.int .i64 x.label)
  c1 : C[i * 4 + 1]? = some (.int .i64 x.room)
  c2 : C[i * 4 + 2]? = some cv
  c3 : C[i * 4 + 3]? = some (.map m)
  row : RowAt H cv x.content.length 1 5 (bytesV x.content)
  map : ∃ es ck, H[m]? = some (.map es ck) ∧ MapI es x.came
/-- All. -/
structure At (H : AH) (s l : Nat) (rv : AV) (C : List AV) (S : List SK) (cs : List AV) (ms : List Nat) : Prop where
  box : H[s]? = some (.cells [.ptr (.mu l) 0, rv] 58)
  row : RowAt H rv S.length 4 62 C
  lc : cs.length = S.length
  lm : ms.length = S.length
  one : ∀ (i : Nat) x cv m, S[i]? = some x → cs[i]? = some cv → ms[i]? = some m → One H C i x cv m
  msn : ms.Nodup
  csd : ∀ (i i' a : Nat) o n c o' n' c', cs[i]? = some (.slice (.mu a) o n c) → cs[i']? = some (.slice (.mu a) o' n' c') → i = i'
/-- What is its own. -/
def Own (s : Nat) (rv : AV) (cs : List AV) (ms : List Nat) (i : Nat) : Prop := i = s ∨ (∃ o n c, rv = .slice (.mu i) o n c) ∨ i ∈ ms ∨ ∃ o n c, AV.slice (.mu i) o n c ∈ cs
theorem At.frame {H H' : AH} {s l : Nat} {rv : AV} {C : List AV} {S : List SK} {cs : List AV} {ms : List Nat} (h : At H s l rv C S cs ms) (hf : ∀ i, Own s rv cs ms i → H'[i]? = H[i]?) : At H' s l rv C S cs ms := by
  refine ⟨by rw [hf s (.inl rfl)]; exact h.box, h.row.frame fun j hj => hf j (.inr (.inl ⟨_, _, _, hj⟩)), h.lc, h.lm, fun i x cv m hx hc hm => ?_, h.msn, h.csd⟩
  have o := h.one i x cv m hx hc hm
  refine ⟨o.c0, o.c1, o.c2, o.c3, o.row.frame fun j hj => hf j (.inr (.inr (.inr ⟨_, _, _, by rw [← hj]; exact List.mem_of_getElem? hc⟩))), ?_⟩
  obtain ⟨es, ck, h1, h2⟩ := o.map
  exact ⟨es, ck, by rw [hf m (.inr (.inr (.inl (List.mem_of_getElem? hm))))]; exact h1, h2⟩
theorem At.kind {H : AH} {s l : Nat} {rv : AV} {C : List AV} {S : List SK} {cs : List AV} {ms : List Nat} (h : At H s l rv C S cs ms) {i : Nat} (hi : Own s rv cs ms i) :
    (∃ c, H[i]? = some (.cells c 58)) ∨ (∃ c t z, H[i]? = some (.row c t z)) ∨ ∃ es ck, H[i]? = some (.map es ck) := by
  rcases hi with rfl | ⟨o, n, c, rfl⟩ | hm | ⟨o, n, c, hc⟩
  · exact .inl ⟨_, h.box⟩
  · rcases h.row with ⟨e, _⟩ | ⟨j, e, hj, _⟩
    · cases e
    · cases e; exact .inr (.inl ⟨_, _, _, hj⟩)
  · obtain ⟨k, hk, hk2⟩ := List.mem_iff_getElem.1 hm
    have hks : k < S.length := by rw [← h.lm]; exact hk
    have o := h.one k _ _ _ (List.getElem?_eq_getElem hks) (List.getElem?_eq_getElem (by rw [h.lc]; exact hks)) (List.getElem?_eq_getElem hk)
    obtain ⟨es, ck, h1, _⟩ := o.map
    rw [hk2] at h1
    exact .inr (.inr ⟨_, _, h1⟩)
  · obtain ⟨k, hk, hk2⟩ := List.mem_iff_getElem.1 hc
    have hks : k < S.length := by rw [← h.lc]; exact hk
    have o := h.one k _ _ _ (List.getElem?_eq_getElem hks) (List.getElem?_eq_getElem hk) (List.getElem?_eq_getElem (by rw [h.lm]; exact hks))
    rw [hk2] at o
    rcases o.row with ⟨e, _⟩ | ⟨j, e, hj, _⟩
    · cases e
    · cases e; exact .inr (.inl ⟨_, _, _, hj⟩)
theorem At.lt {H : AH} {s l : Nat} {rv : AV} {C : List AV} {S : List SK} {cs : List AV} {ms : List Nat} (h : At H s l rv C S cs ms) {i : Nat} (hi : Own s rv cs ms i) : i < H.length := by
  rcases h.kind hi with ⟨_, e⟩ | ⟨_, _, _, e⟩ | ⟨_, _, e⟩ <;> exact (List.getElem?_eq_some_iff.1 e).1
theorem none_at {H : AH} {s l : Nat} {rv : AV} (h : H[s]? = some (.cells [.ptr (.mu l) 0, rv] 58)) : ACalls Tryd.prog R 21 [.ptr (.mu s) 0] H fun v H' => v = .bool false ∧ H' = H := by
  refine ACalls.of_wpE Fns.ok21 (by simp [Fns.a21]) ?_
  simp [Fns.a21, eqEv, h]
theorem is_at {H : AH} {s l : Nat} {rv : AV} {C : List AV} {S : List SK} {cs : List AV} {ms : List Nat} (h : At H s l rv C S cs ms) (a : Int) : ACalls Tryd.prog R 23 [.ptr (.mu s) 0, .int .i64 a] H fun v H' => v = .bool (isL S.length a) ∧ H' = H := by
  have hb := h.box
  refine ACalls.of_wpE Fns.ok23 (by simp [Fns.a23]) ?_
  simp [Fns.a23]
  refine (none_at hb).mono ?_
  rintro v H' ⟨rfl, rfl⟩
  by_cases h1 : 0 ≤ a
  · rcases h.row with ⟨rfl, h0, _⟩ | ⟨j, rfl, hj, _⟩
    · have : ¬ a < 0 := by omega
      simp [hb, h1, isL, h0, this]
    · simp [hb, h1, isL]
  · simp [hb, h1, isL]
theorem len_at {H : AH} {s l : Nat} {rv : AV} {C : List AV} {S : List SK} {cs : List AV} {ms : List Nat} (h : At H s l rv C S cs ms) : ACalls Tryd.prog R 13 [.ptr (.mu s) 0] H fun v H' => v = .int .i64 S.length ∧ H' = H := by
  have hb := h.box
  refine ACalls.of_wpE Fns.ok13 (by simp [Fns.a13]) ?_
  simp [Fns.a13]
  refine (none_at hb).mono ?_
  rintro v H' ⟨rfl, rfl⟩
  rcases h.row with ⟨rfl, h0, _⟩ | ⟨j, rfl, hj, _⟩
  · simp [hb, h0]
  · simp [hb]
def labelAt (S : List SK) (a : Int) : Int := match S[a.toNat]? with | some x => x.label | none => 0
/-- What bars a label's flowing to a sink. -/
def mayF (up : List Nat) (S : List SK) (a b : Int) : Int := if isL S.length a then (if isL up.length b then (if bel up b (labelAt S a) then 0 else 7) else 1) else 4
theorem At.get {H : AH} {s l : Nat} {rv : AV} {C : List AV} {S : List SK} {cs : List AV} {ms : List Nat} (h : At H s l rv C S cs ms) {i : Nat} (hi : i < S.length) :
    ∃ j cv m, rv = .slice (.mu j) 0 S.length (.opn 0) ∧ H[j]? = some (.row C 62 4) ∧ C.length = S.length * 4 ∧ cs[i]? = some cv ∧ ms[i]? = some m ∧ One H C i S[i] cv m := by
  obtain ⟨cv, hc⟩ : ∃ c, cs[i]? = some c := ⟨_, List.getElem?_eq_getElem (by rw [h.lc]; exact hi)⟩
  obtain ⟨m, hm⟩ : ∃ c, ms[i]? = some c := ⟨_, List.getElem?_eq_getElem (by rw [h.lm]; exact hi)⟩
  rcases h.row with ⟨_, h0, _⟩ | ⟨j, e, hj, hl⟩
  · omega
  · exact ⟨j, cv, m, e, hj, hl, hc, hm, h.one i _ cv m (List.getElem?_eq_getElem hi) hc hm⟩
theorem may_at {H : AH} {s l : Nat} {rv : AV} {C : List AV} {S : List SK} {cs : List AV} {ms up dn : List Nat} (h : At H s l rv C S cs ms) (hL : LatAt R H l up dn) (a b : Int) :
    ACalls Tryd.prog R 15 [.ptr (.mu s) 0, .int .i64 a, .int .i64 b] H fun v H' => v = .int .i64 (mayF up S a b) ∧ H' = H := by
  have hb := h.box
  have hlen := len_ok (R := R) hL
  refine ACalls.of_wpE Fns.ok15 (by simp [Fns.a15]) ?_
  simp [Fns.a15]
  refine (none_at hb).mono ?_
  rintro v H' ⟨rfl, rfl⟩
  simp
  refine (is_at h a).mono ?_
  rintro v H' ⟨rfl, rfl⟩
  cases ha : isL S.length a with
  | false => simp [mayF, ha]
  | true =>
    have ha2 := ha
    simp only [isL, Bool.and_eq_true, decide_eq_true_eq] at ha2
    obtain ⟨an, rfl⟩ : ∃ k : Nat, a = k := ⟨a.toNat, by omega⟩
    have han : an < S.length := by omega
    have han' : (an : Int) < (S.length : Int) := by omega
    obtain ⟨j, cv, m, hrv, hj, hCl, hc, hm, o⟩ := h.get han
    have hbel := below_ok (R := R) hL b (S[an].label)
    have c0 := o.c0
    have hla : labelAt S (an : Int) = S[an].label := by simp [labelAt, han]
    simp
    by_cases h1 : b < 0
    · have : isL up.length b = false := by simp [isL]; omega
      simp [h1, mayF, ha, this]
    simp [h1, hb]
    refine hlen.mono ?_
    rintro v H' ⟨rfl, rfl⟩
    by_cases h2 : (up.length : Int) ≤ b
    · have : isL up.length b = false := by simp [isL]; omega
      simp [h2, mayF, ha, this]
    have hib : isL up.length b = true := by simp [isL]; omega
    simp [h2]
    refine AWp.sched [0, 1, 2, 3, 4, 5, 6, 7, 8, 9, 10, 11, 12, 13, 14, 15, 16] Fns.mixed (by decide +kernel) ?_
    simp [hb, hrv, hj, han, han', c0]
    refine hbel.mono ?_
    rintro v H' ⟨rfl, rfl⟩
    cases hbb : bel up b S[an].label with
    | true => simp [mayF, ha, hib, hla, hbb, recheck, hb, hrv, hj, c0]
    | false => simp [mayF, ha, hib, hla, hbb, recheck, hb, hrv, hj, c0]
end Go.Proofs.YtaanoplfdjlnmaaDoor.Sk
