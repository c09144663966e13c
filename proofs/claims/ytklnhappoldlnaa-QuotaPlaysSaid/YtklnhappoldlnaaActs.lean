/- The acts that came in; New, Great. -/
import Derived.Test.YtklnhappoldlnaaHeap
import Derived.Test.YtklnhappoldlnaaAmSl
namespace Go.Proofs.Ytklnhappoldlnaa.Heap
open Go Go.RowKit Am
set_option maxRecDepth 100000
set_option linter.unusedSimpArgs false
set_option linter.unusedVariables false
variable {R : Ro}
/-- What is done: what, how many, to whom. -/
abbrev Act := Int × Int × List UInt8
def Act.cells (x : Act) : List AV := [.int .i64 x.1, .int .i64 x.2.1, .str x.2.2]
def Acts (R : Ro) (a : AV) (L : List Act) : Prop := Sl R 3 a (L.map Act.cells) ∧ ∀ x ∈ L, x.2.2.length ≤ maxLen
theorem new_bad (H : AH) (most : Int) (h : ¬ (0 ≤ most ∧ most ≤ 1099511627776)) : ACalls Try.prog R 14 [.int .i64 most] H fun v H' => v = .tuple [.nilptr, .int .i64 1] ∧ H' = H := by
  refine ACalls.of_wpE Fns.ok14 (by simp [Fns.a14]) ?_
  by_cases h1 : most < 0
  · simp [Fns.a14, h1]
  · have h2 : 1099511627776 < most := by omega
    simp [Fns.a14, h1, h2]
theorem new_ok (H : AH) (most : Int) (h : 0 ≤ most ∧ most ≤ 1099511627776) : ACalls Try.prog R 14 [.int .i64 most] H fun v H' => v = .tuple [.ptr (.mu (H.length + 1)) 0, .int .i64 0] ∧ Q H' (H.length + 1) most (fun _ => 0) [H.length + 1, H.length] ∧ (∃ G, H' = H ++ G) ∧ H'.length = H.length + 2 := by
  refine ACalls.of_wpE Fns.ok14 (by simp [Fns.a14]) ?_
  have h1 : ¬ most < 0 := by omega
  have h2 : ¬ 1099511627776 < most := by omega
  simp [Fns.a14, h1, h2, fillA, splice, AV.oneCell]
  refine ⟨H.length, [], [], [], ⟨?_, ⟨[], 0, ?_, rfl, rfl⟩, rfl, rfl, by simp, by simp, h.1, h.2, by simp⟩, ?_, rfl⟩
  · rw [List.getElem?_append_right (by omega)]; simp
  · rw [List.getElem?_append_right (by omega)]; simp
  · funext k; rfl
theorem great_ok (H : AH) (a : AV) (L : List Act) (hs : Acts R a L) : ACalls Try.prog R 13 [a] H fun v H' => H' = H ∧ ∃ b, v = .bool b ∧ (b = false → L.length ≤ 300) := by
  obtain ⟨hs, hk⟩ := hs
  have hlen := hs.len_le
  simp only [List.length_map] at hlen
  refine ACalls.of_wpE Fns.ok13 (by simp [Fns.a13]) ?_
  simp [Fns.a13]
  refine AWp.loop (fun e H' => H' = H ∧ e 0 = a ∧ e 2 = .bool false ∧ ∃ (i : Nat) (n : Int), i ≤ L.length ∧ i ≤ 301 ∧ 0 ≤ n ∧ n ≤ i * 20001 ∧ e 3 = .int .i64 n ∧ e 4 = .int .i64 i) (fun e _ => match e 4 with | .int _ i => (301 - i).toNat | _ => 0) ⟨rfl, rfl, rfl, 0, 0, by omega, by omega, by omega, by omega, rfl, rfl⟩ ?_
  rintro e H' ⟨rfl, h0, h2, i, n, hi1, hi2, hn1, hn2, h3, h4⟩
  refine wpE_sound _ ?_
  by_cases hlt : i < L.length
  · obtain ⟨b, off, cap, ha, hcell⟩ := hs.at (show i < (L.map Act.cells).length by simpa using hlt)
    subst ha
    have hR := hcell 2 (.str L[i].2.2) (by simp [Act.cells])
    have hl2 : ((i : Int) < (L.length : Int)) := by omega
    by_cases h300 : (i : Int) ≤ 300
    · have hw1 := wrap_i64 ((i : Int) + 1) (by omega) (by omega)
      have hmin : (if (20001 : Int) < L[i].2.2.length then (20001 : Int) else L[i].2.2.length) ≤ 20001 ∧ 0 ≤ (if (20001 : Int) < L[i].2.2.length then (20001 : Int) else L[i].2.2.length) := by split <;> omega
      have hw2 := wrap_i64 (n + (if (20001 : Int) < L[i].2.2.length then (20001 : Int) else L[i].2.2.length)) (by omega) (by omega)
      simp [h0, h3, h4, hl2, hlt, h300, hR, foldI, hw1, hw2]
      refine ⟨⟨h2, i + 1, by omega, by omega, _, ?_, ?_, rfl, by simp⟩, by omega⟩
      · omega
      · omega
    · have h300' : ¬ (i : Int) ≤ 300 := h300
      have hbig : (300 : Int) < L.length := by omega
      simp [h0, h3, h4, hl2, hlt, h300, hbig]
  · have hl2 : ¬ ((i : Int) < (L.length : Int)) := by omega
    have hge : L.length ≤ i := by omega
    rcases hs with ⟨rfl, hL⟩ | ⟨b, off, cap, rfl, _⟩
    · obtain rfl : L = [] := by simpa using hL
      have h300 : ¬ (300 : Int) < 0 := by omega
      have hi0 : ¬ ((i : Int) < 0) := by omega
      by_cases hn : (20000 : Int) < n
      · simp [h0, h3, h4, h300, hi0, hn]
      · simp [h0, h3, h4, h300, hi0, hn]
    · by_cases h300 : (300 : Int) < L.length
      · simp [h0, h3, h4, h300, hl2]
      · have hle : L.length ≤ 300 := by omega
        by_cases hn : (20000 : Int) < n
        · simp [h0, h3, h4, h300, hl2, hn, hle]
        · simp [h0, h3, h4, h300, hl2, hn, hle]
end Go.Proofs.Ytklnhappoldlnaa.Heap
