/- All labels below one. -/
import Derived.Test.YtjncbipaikmogaaDoorLatLook
import Derived.Test.YtjncbipaikmogaaDoorAmApp
namespace Go.Proofs.YtjncbipaikmogaaDoor.Latt
open Go Go.RowKit Am
set_option maxRecDepth 100000
set_option linter.unusedSimpArgs false
set_option linter.unusedVariables false
attribute [-simp] Am.binEv Am.intBin Am.read1
attribute [local simp] binEv_lss binEv_leq binEv_gtr binEv_geq binEv_eql binEv_neq binEv_add binEv_sub binEv_mul binEv_shr58 read1_ro read1_mu
variable {R : Ro}
theorem LatAt.keeps {H H' : AH} {l : Nat} {up dn : List Nat} (h : LatAt R H l up dn) (hk : Keeps H H') : LatAt R H' l up dn := by
  obtain ⟨⟨av, bv, rest, hb, h1, h2⟩, h3, h4, h5, h6, h7⟩ := h
  exact ⟨⟨av, bv, rest, by rw [hk.2 l (List.getElem?_eq_some_iff.1 hb).1]; exact hb, h1.frame hk.2, h2.frame hk.2⟩, h3, h4, h5, h6, h7⟩
/-- The labels below 'a', among the first 'k'. -/
def downs (up : List Nat) (a : Int) (k : Nat) : List Nat := (List.range k).filter fun (b : Nat) => bel up b a
theorem downs_succ (up : List Nat) (a : Int) (k : Nat) : downs up a (k + 1) = downs up a k ++ if bel up k a then [k] else [] := by
  unfold downs
  rw [List.range_succ, List.filter_append]
  cases h : bel up k a <;> simp [h]
theorem downs_le (up : List Nat) (a : Int) (k : Nat) : (downs up a k).length ≤ k := by
  have := List.length_filter_le (fun (b : Nat) => bel up b a) (List.range k)
  simpa [downs] using this
set_option maxHeartbeats 4000000 in
theorem downset_ok {H : AH} {l : Nat} {up dn : List Nat} (hL : LatAt R H l up dn) (a : Int) : ACalls Tryd.prog R 39 [.ptr (.mu l) 0, .int .i64 a] H fun v H' =>
    RowOwn H H' v (downs up a up.length).length 1 3 ((downs up a up.length).map fun (b : Nat) => .int .i64 b) := by
  have hle := hL.le
  refine ACalls.of_wpE Fns.ok39 (by simp [Fns.a39]) ?_
  simp [Fns.a39]
  refine (len_ok hL).mono ?_
  rintro v H' ⟨rfl, rfl⟩
  simp
  refine AWp.loop (fun e H1 => e 0 = .ptr (.mu l) 0 ∧ e 1 = .int .i64 a ∧ e 8 = .int .i64 up.length ∧ ∃ k : Nat, e 9 = .int .i64 k ∧ k ≤ up.length ∧ RowOwn H' H1 (e 5) (downs up a k).length 1 3 ((downs up a k).map fun (b : Nat) => .int .i64 b))
    (fun e _ => match e 9 with | .int _ i => ((up.length : Int) - i).toNat | _ => 0) ⟨by simp, by simp, by simp, 0, by simp, by omega, by simpa [downs] using RowOwn.nil H' 1 3⟩ ?_
  rintro e H1 ⟨h0, h1, h8, k, h9, hk, hrow⟩
  refine wpE_sound _ ?_
  by_cases hkl : k < up.length
  · have hkl' : (k : Int) < (up.length : Int) := by omega
    have hw1 := i64_small ((k : Int) + 1) (by omega) (by omega)
    simp [h0, h1, h8, h9, hkl, hkl']
    refine (below_ok (hL.keeps hrow.keeps) k a).mono ?_
    rintro v H2 ⟨rfl, rfl⟩
    have hsu := downs_succ up a k
    cases hb : bel up k a with
    | false =>
      rw [hb] at hsu
      simp at hsu
      simp [h0, h1, h8, h9, hw1]
      exact ⟨⟨k + 1, by simp, by omega, by rw [hsu]; exact hrow⟩, by omega⟩
    | true =>
      rw [hb] at hsu
      simp at hsu
      have hdl := downs_le up a k
      obtain ⟨G, hG, hrow2, _, _⟩ := hrow.push (R := R) (by' := 8) (t' := 3) (new := [.int .i64 (k : Int)]) (by omega) (by omega) (by omega) (by simp [AV.oneCell]) rfl (.known 1)
      simp [h0, h1, h8, h9, hw1, fillA, splice, zerosEv, AV.oneCell, hG]
      exact ⟨⟨k + 1, by simp, by omega, by rw [hsu]; simpa using hrow2⟩, by omega⟩
  · obtain rfl : k = up.length := by omega
    simp [h0, h1, h8, h9]
    exact hrow
end Go.Proofs.YtjncbipaikmogaaDoor.Latt
