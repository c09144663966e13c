/- What a sink takes. -/
import Derived.Test.YtaanoplfdjlnmaaDoorSkHeap
namespace Go.Proofs.YtaanoplfdjlnmaaDoor.Sk
open Go Go.RowKit Am Latt
set_option maxRecDepth 100000
set_option linter.unusedSimpArgs false
set_option linter.unusedVariables false
attribute [-simp] Am.binEv Am.intBin Am.read1
attribute [local simp] binEv_lss binEv_leq binEv_gtr binEv_geq binEv_eql binEv_neq binEv_add binEv_sub binEv_mul binEv_shr58 read1_ro read1_mu
variable {R : Ro}
/-- How much room a sink has for a label. -/
def leftF (up : List Nat) (S : List SK) (a b : Int) : Int := if mayF up S a b = 0 then (match S[a.toNat]? with | some x => x.room - x.came b | none => 0) else 0
theorem mayF_is {up : List Nat} {S : List SK} {a b : Int} (h : mayF up S a b = 0) : ∃ an : Nat, a = an ∧ an < S.length := by
  unfold mayF at h
  split at h
  · rename_i h1
    simp only [isL, Bool.and_eq_true, decide_eq_true_eq] at h1
    exact ⟨a.toNat, by omega, by omega⟩
  · cases h
theorem left_at {H : AH} {s l : Nat} {rv : AV} {C : List AV} {S : List SK} {cs : List AV} {ms up dn : List Nat} (h : At H s l rv C S cs ms) (hL : LatAt R H l up dn) (a b : Int)
    (hbd : ∀ x ∈ S, (0 ≤ x.room ∧ x.room ≤ 65536) ∧ ∀ z, 0 ≤ x.came z ∧ x.came z ≤ x.room) :
    ACalls Tryd.prog R 17 [.ptr (.mu s) 0, .int .i64 a, .int .i64 b] H fun v H' => v = .int .i64 (leftF up S a b) ∧ H' = H := by
  have hb := h.box
  refine ACalls.of_wpE Fns.ok17 (by simp [Fns.a17]) ?_
  simp [Fns.a17]
  refine (may_at h hL a b).mono ?_
  rintro v H' ⟨rfl, rfl⟩
  by_cases hm0 : mayF up S a b = 0
  · obtain ⟨an, rfl, han⟩ := mayF_is hm0
    have han' : (an : Int) < (S.length : Int) := by omega
    obtain ⟨j, cv, m, hrv, hj, hCl, hc, hm, o⟩ := h.get han
    have c1 := o.c1
    have c3 := o.c3
    obtain ⟨es, ck, hes, hmap⟩ := o.map
    have hx := hbd S[an] (List.getElem_mem han)
    have hz := hx.2 b
    have hw := i64_small (S[an].room - S[an].came b) (by omega) (by omega)
    simp [hm0]
    refine AWp.seqDraw Fns.mixed (by decide +kernel) ?_
    rcases hmap.find (P := Tryd.prog) (key := 3) Tryd.underlying3 b with ⟨hf, h0, _⟩ | ⟨k, en, hf, hen, hv, _, _⟩
    · rw [h0, Int.sub_zero] at hw
      simp [hb, hrv, hj, han, han', c1, c3, hes, hf, leftF, hm0, h0, hw]
    · simp [hb, hrv, hj, han, han', c1, c3, hes, hf, hen, hv, leftF, hm0, hw]
  · simp [hm0, leftF]
theorem bytesOf_V (b : List UInt8) : bytesOf (bytesV b) = some b := by
  induction b with
  | nil => rfl
  | cons x r ih =>
    have : bytesV (x :: r) = .int .u8 x.toNat :: bytesV r := rfl
    rw [this]
    simp only [bytesOf, ih, Option.map_some, Int.toNat_natCast]
    rw [if_pos (by omega)]
    simp
/-- All bytes of one. -/
def contentF (S : List SK) (a : Int) : List UInt8 := if isL S.length a then (match S[a.toNat]? with | some x => x.content | none => []) else []
theorem content_at {H : AH} {s l : Nat} {rv : AV} {C : List AV} {S : List SK} {cs : List AV} {ms : List Nat} (h : At H s l rv C S cs ms) (a : Int) :
    ACalls Tryd.prog R 18 [.ptr (.mu s) 0, .int .i64 a] H fun v H' => v = .str (contentF S a) ∧ H' = H := by
  have hb := h.box
  refine ACalls.of_wpE Fns.ok18 (by simp [Fns.a18]) ?_
  simp [Fns.a18]
  refine (is_at h a).mono ?_
  rintro v H' ⟨rfl, rfl⟩
  cases ha : isL S.length a with
  | false => simp [contentF, ha]
  | true =>
    have ha2 := ha
    simp only [isL, Bool.and_eq_true, decide_eq_true_eq] at ha2
    obtain ⟨an, rfl⟩ : ∃ k : Nat, a = k := ⟨a.toNat, by omega⟩
    have han : an < S.length := by omega
    have han' : (an : Int) < (S.length : Int) := by omega
    obtain ⟨j, cv, m, hrv, hj, hCl, hc, hm, o⟩ := h.get han
    have c2 := o.c2
    have hbo := bytesOf_V S[an].content
    have hbl := bytesV_len S[an].content
    rcases o.row with ⟨rfl, h0, _⟩ | ⟨q, rfl, hq, _⟩
    · have : S[an].content = [] := List.length_eq_zero_iff.1 h0
      simp [hb, hrv, hj, han, han', c2, contentF, ha, this]
    · have htk : List.take S[an].content.length (bytesV S[an].content) = bytesV S[an].content := List.take_of_length_le (by omega)
      simp [hb, hrv, hj, han, han', c2, contentF, ha, hq, hbl, htk, hbo]
/-- Bytes behind a row. -/
theorem append_bytes {H : AH} {v : AV} {k : Nat} {C : List AV} (h : RowAt H v k 1 5 C) (b : List UInt8) (hfit : k + b.length ≤ 1000000) :
    ∃ v' G, appendEv R H 5 1 1 v (.str b) = some (v', G) ∧ RowAt G v' (k + b.length) 1 5 (C ++ bytesV b) ∧ v'.oneCell = true ∧
      ((v' = v ∧ G = H) ∨ (v' = .slice (.mu H.length) 0 (k + b.length) (.opn 0) ∧ G.length = H.length + 1 ∧ ∀ i, i < H.length → (∀ o l c, v ≠ .slice (.mu i) o l c) → G[i]? = H[i]?)) := by
  have hs : srcEv R H 1 (.str b) = some (bytesV b, b.length) := by simp [srcEv, bytesV]
  by_cases hb : b = []
  · subst hb
    rcases h with ⟨rfl, rfl, rfl⟩ | ⟨j, rfl, hj, hC⟩
    · exact ⟨.nilslice, H, by simp [appendEv, srcEv], .inl ⟨rfl, rfl, rfl⟩, rfl, .inl ⟨rfl, rfl⟩⟩
    · have hjl := (List.getElem?_eq_some_iff.1 hj).1
      have hw : writeN H j k [] = some H := by
        unfold writeN
        rw [hj]
        have hle : k ≤ C.length := by omega
        simp [AO.content, AO.withContent, splice, hle]
        rw [← (List.getElem?_eq_some_iff.1 hj).2]
        exact List.set_getElem_self ..
      have hk1 : k ≤ 140737488355328 := by omega
      have hk2 : k ≤ C.length := by omega
      refine ⟨.slice (.mu j) 0 k (.opn 0), H, ?_, by simpa [bytesV] using RowAt.frame (.inr ⟨j, rfl, hj, hC⟩) (fun _ _ => rfl), rfl, .inl ⟨rfl, rfl⟩⟩
      unfold appendEv
      simp [srcEv, hj, hk1, hk2, hw]
  · have hpos : 0 < b.length := List.length_pos_iff.2 hb
    obtain ⟨G, hG, hl, hr, hf⟩ := append_row (R := R) (by' := 1) h hs hpos (by decide) (by decide) (by omega) (by simp [bytesV, AV.oneCell]) (by simp [bytesV])
    exact ⟨_, G, hG, hr, rfl, .inr ⟨rfl, hl, hf⟩⟩
end Go.Proofs.YtaanoplfdjlnmaaDoor.Sk
