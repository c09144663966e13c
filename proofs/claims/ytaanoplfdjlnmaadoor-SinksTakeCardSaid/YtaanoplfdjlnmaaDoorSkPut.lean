/- A write. -/
import Derived.Test.YtaanoplfdjlnmaaDoorSkTake
namespace Go.Proofs.YtaanoplfdjlnmaaDoor.Sk
open Go Go.RowKit Am Latt
set_option maxRecDepth 100000
set_option linter.unusedSimpArgs false
set_option linter.unusedVariables false
attribute [-simp] Am.binEv Am.intBin Am.read1
attribute [local simp] binEv_lss binEv_leq binEv_gtr binEv_geq binEv_eql binEv_neq binEv_add binEv_sub binEv_mul binEv_shr58 read1_ro read1_mu
variable {R : Ro}
/-- How many bytes a sink takes. -/
def takeN (x : SK) (b : Int) (t : List UInt8) : Nat := min t.length (x.room - x.came b).toNat
def takeK (x : SK) (b : Int) (t : List UInt8) : SK := { x with content := x.content ++ t.take (takeN x b t), came := updI x.came b (x.came b + takeN x b t) }
def Good (S : List SK) : Prop := ∀ x ∈ S, (0 ≤ x.room ∧ x.room ≤ 65536) ∧ ∀ z, 0 ≤ x.came z ∧ x.came z ≤ x.room
def putK (S : List SK) (an : Nat) (b : Int) (t : List UInt8) : List SK := match S[an]? with | some x => S.set an (takeK x b t) | none => S
theorem write_at {H : AH} {s l : Nat} {rv : AV} {C : List AV} {S : List SK} {cs : List AV} {ms up dn : List Nat} (h : At H s l rv C S cs ms) (hL : LatAt R H l up dn) (a b : Int) (t : List UInt8)
    (hbd : Good S) (hfit : ∀ x ∈ S, x.content.length + t.length ≤ 1000000) :
    ACalls Tryd.prog R 16 [.ptr (.mu s) 0, .int .i64 a, .int .i64 b, .str t] H fun v H' =>
      (¬ mayF up S a b = 0 ∧ v = .tuple [.int .i64 0, .int .i64 (mayF up S a b)] ∧ H' = H) ∨
      (mayF up S a b = 0 ∧ ∃ (an : Nat) (x : SK), a = an ∧ S[an]? = some x ∧ v = .tuple [.int .i64 (takeN x b t), .int .i64 0] ∧ ∃ C' cs', At H' s l rv C' (S.set an (takeK x b t)) cs' ms ∧ H.length ≤ H'.length ∧
        (∀ i, Own s rv cs' ms i → Own s rv cs ms i ∨ H.length ≤ i) ∧ ∀ i, i < H.length → ¬ Own s rv cs ms i → H'[i]? = H[i]?) := by
  have hb := h.box
  refine ACalls.of_wpE Fns.ok16 (by simp [Fns.a16]) ?_
  simp [Fns.a16]
  refine (may_at h hL a b).mono ?_
  rintro v H' ⟨rfl, rfl⟩
  by_cases hm0 : mayF up S a b = 0
  · obtain ⟨an, rfl, han⟩ := mayF_is hm0
    have han' : (an : Int) < (S.length : Int) := by omega
    obtain ⟨j, cv, m, hrv, hj, hCl, hc, hm, o⟩ := h.get han
    have c2 := o.c2
    have c3 := o.c3
    obtain ⟨es, ck, hes, hmap⟩ := o.map
    have hx := hbd S[an] (List.getElem_mem han)
    have hz := hx.2 b
    have hft := hfit S[an] (List.getElem_mem han)
    have hlf : leftF up S an b = S[an].room - S[an].came b := by simp [leftF, hm0, han]
    have hget : S[an]? = some S[an] := List.getElem?_eq_getElem han
    generalize hX : S[an] = x at *
    obtain ⟨n, hn⟩ : ∃ n, n = takeN x b t := ⟨_, rfl⟩
    have hnt : n ≤ t.length := by rw [hn]; unfold takeN; omega
    have hnr : (n : Int) ≤ x.room - x.came b := by rw [hn]; unfold takeN; omega
    have hmin : (if x.room - x.came b < (t.length : Int) then x.room - x.came b else (t.length : Int)) = n := by
      rw [hn]; unfold takeN
      split <;> omega
    have hw := i64_small (x.came b + n) (by omega) (by omega)
    obtain ⟨v', G, hap, hr, hone, hcase⟩ := append_bytes (R := R) o.row (t.take n) (by rw [List.length_take]; omega)
    have hx' : takeK x b t = { x with content := x.content ++ t.take n, came := updI x.came b (x.came b + n) } := by rw [hn]; rfl
    have hcl : (x.content ++ t.take n).length = x.content.length + (t.take n).length := by simp
    have hbv : bytesV (x.content ++ t.take n) = bytesV x.content ++ bytesV (t.take n) := by simp [bytesV]
    have hn' : (n : Int) ≤ (t.length : Int) := by omega
    have hapH : G.length ≥ H'.length := by rcases hcase with ⟨_, rfl⟩ | ⟨_, e, _⟩ <;> omega
    have hcvrow : ∀ (i oo k : Nat) (c : Cap), cv = .slice (.mu i) oo k c → ∃ D, H'[i]? = some (AO.row D 5 1) := fun i oo k c e => by
      rcases o.row with ⟨e', _⟩ | ⟨q, e', hq, _⟩
      · rw [e] at e'; cases e'
      · rw [e] at e'; cases e'; exact ⟨_, hq⟩
    have hG : ∀ (i : Nat) (u : AO), H'[i]? = some u → (∀ o l c, cv ≠ .slice (.mu i) o l c) → G[i]? = some u := fun i u hu hne => by
      rcases hcase with ⟨_, rfl⟩ | ⟨_, _, hf⟩
      · exact hu
      · rw [hf i (List.getElem?_eq_some_iff.1 hu).1 hne]; exact hu
    have hGj : G[j]? = some (.row C 62 4) := hG j _ hj fun oo k c e => by obtain ⟨D, hD⟩ := hcvrow _ _ _ _ e; rw [hj] at hD; cases hD
    have hGm : G[m]? = some (.map es ck) := hG m _ hes fun oo k c e => by obtain ⟨D, hD⟩ := hcvrow _ _ _ _ e; rw [hes] at hD; cases hD
    have hmj : m ≠ j := by rintro rfl; rw [hes] at hj; cases hj
    have hanl : an * 4 + 2 < C.length := by omega
    have hwr := writeN_row hGj hanl v' hone
    have hjl := (List.getElem?_eq_some_iff.1 hGj).1
    have h2j : (G.set j (.row (C.set (an * 4 + 2) v') 62 4))[j]? = some (.row (C.set (an * 4 + 2) v') 62 4) := by rw [List.getElem?_set, if_pos rfl, if_pos hjl]
    have h2m : (G.set j (.row (C.set (an * 4 + 2) v') 62 4))[m]? = some (.map es ck) := by rw [List.getElem?_set, if_neg (Ne.symm hmj)]; exact hGm
    have hc3 : (C.set (an * 4 + 2) v')[an * 4 + 3]? = some (.map m) := by rw [List.getElem?_set, if_neg (by omega)]; exact c3
    have key := fun es' ck' (hmp : MapI es' (takeK x b t).came) => At.take (G := G) h han hrv hj hc hm (by rw [hX]; exact o) (v' := v') (x' := takeK x b t) (by rw [hX]; rfl) (by rw [hX]; rfl)
      (by rw [hx']; simp only [hcl, hbv]; exact hr) (by rw [hx']; simp only [hcl]; exact hcase) (es' := es') (ck' := ck') hmp
    have hcells : v' = .nilslice ∨ ∃ q k, v' = .slice (.mu q) 0 k (.opn 0) := by
      rcases hr with ⟨e, _⟩ | ⟨q, e, _⟩
      · exact .inl e
      · exact .inr ⟨_, _, e⟩
    simp [hm0]
    refine (left_at h hL an b hbd).mono ?_
    rintro v H2 ⟨rfl, rfl⟩
    simp [hlf, foldI, hmin, hb, hrv, han, han']
    refine AWp.sched [0, 1, 2, 3, 4, 5, 6, 7, 8, 9, 10, 11] Fns.mixed (by decide +kernel) ?_
    rcases hmap.find (P := Tryd.prog) (key := 3) Tryd.underlying3 b with ⟨hf, h0, hup⟩ | ⟨k, en, hf, hen, hv, hkey, hup⟩
    · have hk := key _ (ck + 1) (by rw [hx']; exact hup (x.came b + n) ck)
      rw [h0] at hw hk
      simp only [Int.zero_add] at hw hk
      rcases hcells with rfl | ⟨q, k2, rfl⟩
      · simp [hb, hrv, hj, c2, boundEv, hn', hnt, hap, hwr, h2j, hc3, h2m, hf, hw]
        refine ⟨an, rfl, x, hget, by rw [hn], C.set (an * 4 + 2) .nilslice, cs.set an .nilslice, ?_⟩
        rw [← hrv]
        exact ⟨hk.1, hapH, hk.2.2⟩
      · simp [hb, hrv, hj, c2, boundEv, hn', hnt, hap, hwr, h2j, hc3, h2m, hf, hw]
        refine ⟨an, rfl, x, hget, by rw [hn], C.set (an * 4 + 2) (.slice (.mu q) 0 k2 (.opn 0)), cs.set an (.slice (.mu q) 0 k2 (.opn 0)), ?_⟩
        rw [← hrv]
        exact ⟨hk.1, hapH, hk.2.2⟩
    · have hk := key _ ck (by rw [hx']; exact hup (x.came b + n) en.born)
      have hst : staysEv en.key (.int .i64 b) = true := by rw [hkey]; exact stays_int .i64 b
      rcases hcells with rfl | ⟨q, k2, rfl⟩
      · simp [hb, hrv, hj, c2, boundEv, hn', hnt, hap, hwr, h2j, hc3, h2m, hf, hw, hen, hv, hst]
        refine ⟨an, rfl, x, hget, by rw [hn], C.set (an * 4 + 2) .nilslice, cs.set an .nilslice, ?_⟩
        rw [← hrv]
        exact ⟨hk.1, hapH, hk.2.2⟩
      · simp [hb, hrv, hj, c2, boundEv, hn', hnt, hap, hwr, h2j, hc3, h2m, hf, hw, hen, hv, hst]
        refine ⟨an, rfl, x, hget, by rw [hn], C.set (an * 4 + 2) (.slice (.mu q) 0 k2 (.opn 0)), cs.set an (.slice (.mu q) 0 k2 (.opn 0)), ?_⟩
        rw [← hrv]
        exact ⟨hk.1, hapH, hk.2.2⟩
  · simp [hm0]
end Go.Proofs.YtaanoplfdjlnmaaDoor.Sk
