/- Two sets of sinks over one lattice. -/
import Derived.Test.YtaanoplfdjlnmaaDoorSkGreat
namespace Go.Proofs.YtaanoplfdjlnmaaDoor.Sk
open Go Go.RowKit Am Latt
set_option maxRecDepth 100000
set_option linter.unusedSimpArgs false
set_option linter.unusedVariables false
variable {R : Ro}
theorem takeN_le {x : SK} {b : Int} {t : List UInt8} (h : x.came b ≤ x.room) : x.came b + (takeN x b t : Int) ≤ x.room := by unfold takeN; omega
theorem Good.take {S : List SK} (h : Good S) {an : Nat} {x : SK} (hx : S[an]? = some x) (b : Int) (t : List UInt8) : Good (S.set an (takeK x b t)) := by
  intro y hy
  rcases List.mem_or_eq_of_mem_set hy with hy | rfl
  · exact h y hy
  · have := h x (List.mem_of_getElem? hx)
    refine ⟨this.1, fun z => ?_⟩
    have hb := this.2 b
    have hz := this.2 z
    have ht := takeN_le (t := t) hb.2
    show 0 ≤ updI x.came b (x.came b + takeN x b t) z ∧ updI x.came b (x.came b + takeN x b t) z ≤ x.room
    unfold updI
    split <;> omega
def Short (S : List SK) (k : Nat) : Prop := ∀ x ∈ S, x.content.length ≤ k
theorem Short.take {S : List SK} {k : Nat} (h : Short S k) {an : Nat} {x : SK} (hx : S[an]? = some x) (b : Int) {t : List UInt8} (ht : t.length ≤ 100) : Short (S.set an (takeK x b t)) (k + 100) := by
  intro y hy
  rcases List.mem_or_eq_of_mem_set hy with hy | rfl
  · have := h y hy; omega
  · have := h x (List.mem_of_getElem? hx)
    show (x.content ++ t.take (takeN x b t)).length ≤ _
    rw [List.length_append, List.length_take]
    omega
theorem lat_off {H : AH} {s l l' p q : Nat} {rv : AV} {C : List AV} {S : List SK} {cs : List AV} {ms up dn : List Nat} (h : At H s l' rv C S cs ms) (hL : LatIn H l p q up dn) : ∀ i, i = l ∨ i = p ∨ i = q → ¬ Own s rv cs ms i := by
  intro i hi ho
  have hk := h.kind ho
  rcases hi with rfl | rfl | rfl
  · rw [hL.box] at hk; simp at hk
  · rw [hL.pu] at hk; simp at hk
  · rw [hL.qd] at hk; simp at hk
theorem lat_lt {H : AH} {l p q : Nat} {up dn : List Nat} (hL : LatIn H l p q up dn) : ∀ i, i = l ∨ i = p ∨ i = q → i < H.length := by
  rintro i (rfl | rfl | rfl)
  · exact (List.getElem?_eq_some_iff.1 hL.box).1
  · exact (List.getElem?_eq_some_iff.1 hL.pu).1
  · exact (List.getElem?_eq_some_iff.1 hL.qd).1
end Go.Proofs.YtaanoplfdjlnmaaDoor.Sk
