/- What the laws reach: the library's answers; the words. -/
import Derived.Test.YtgdmalobagncpaaDoorReach0
import Derived.Test.YtgdmalobagncpaaDoorIdLawB
namespace Go.Proofs.YtgdmalobagncpaaDoor.Reach
open Go Go.RowKit Am
set_option linter.unusedSimpArgs false
variable {w : World} {m : Int} {l0 o0 l1 o1 : Nat}
theorem pow10 : Laid.zs2 = Lib.pow10Tab := by decide
theorem lb (hR : ROk (Laid.ro m l0 o0 l1 o1) w) : Id.Lb (roW w) where
  itoa := fun n H h0 h1 => itoa_use h0 h1 (fun base hb => by
      have hg : Laid.good base := (Laid.ro m l0 o0 l1 o1).up _ _ hb.good hR.good
      rw [← pow10]
      exact hg.2.2.1)
    (fun w' ht => (Tryd.strconv_Itoa n h0 h1 w' ht).mono fun e w2 ⟨e1, k, os, e2⟩ => ⟨e1, by rw [e2]; exact Lib.below_grow _ _ (Nat.le_refl _) _ _⟩) H
  join := fun hi sep h1 h2 => ACalls.base (sub hR) (join_use (Fns.ctr_ok m l0 o0 l1 o1 22 _ rfl) hi sep h1 h2)
  split := fun s sep H h1 h2 => (ACalls.base (sub hR) (split_use (Fns.ctr_ok m l0 o0 l1 o1 19 _ rfl) s sep h1 h2 H)).mono fun v H' ⟨e1, e2⟩ => ⟨e1, _, e2⟩
  atoi := fun s H h1 => (ACalls.base (sub hR) (atoi_use (Fns.ctr_ok m l0 o0 l1 o1 20 _ rfl) s h1 H)).mono fun v H' h => by
    cases hq : Lib.atoiAll s with
    | ok z =>
      rw [hq] at h
      obtain ⟨rfl, rfl⟩ := h
      exact ⟨z, .niface, [], rfl, by simp, fun z' e => by cases e; exact ⟨rfl, rfl⟩, fun hn => absurd rfl (hn z)⟩
    | _ =>
      rw [hq] at h
      obtain ⟨z, rfl, rfl⟩ := h
      exact ⟨z, _, _, rfl, rfl, fun z' e => (by cases e), fun _ => ⟨_, _, rfl⟩⟩
theorem pane_of {vs : List AV} (h : Shape [.int .i64, .int .i64, .int .i64] vs) : ∃ a b c : Int, vs = [.int .i64 a, .int .i64 b, .int .i64 c] := by
  obtain ⟨x, r, rfl, ⟨a, rfl, _⟩, y, r2, rfl, ⟨b, rfl, _⟩, z, r3, rfl, ⟨c, rfl, _⟩, h⟩ := h
  exact ⟨a, b, c, by rw [show r3 = [] from h]⟩
theorem words (hR : ROk (Laid.ro m l0 o0 l1 o1) w) (vs : List AV) (hv : Shape [.int .i64, .int .i64, .int .i64] vs) (s : List UInt8) (_ : s.length ≤ 140737488351232) :
    ACalls Tryd.prog (roW w) 4 [.agg vs, .str s] [] fun v _ => v = .bool true := by
  obtain ⟨a, b, c, rfl⟩ := pane_of hv
  exact Id.law_words (lb hR) (fun H => ACalls.base (sub hR) (Nobody.awake m l0 o0 l1 o1 H)) a b c s
theorem back (hR : ROk (Laid.ro m l0 o0 l1 o1) w) (vs : List AV) (hv : Shape [.int .i64, .int .i64, .int .i64] vs) (us : List AV) (hu : Shape [.int .i64, .int .i64, .int .i64] us) (s : List UInt8) (_ : s.length ≤ 140737488351232) :
    ACalls Tryd.prog (roW w) 7 [.agg vs, .agg us, .str s] [] fun v _ => v = .bool true := by
  obtain ⟨a, b, c, rfl⟩ := pane_of hv
  obtain ⟨a2, b2, c2, rfl⟩ := pane_of hu
  exact Id.law_back (lb hR) (fun H => ACalls.base (sub hR) (Nobody.awake m l0 o0 l1 o1 H)) a b c a2 b2 c2 s
end Go.Proofs.YtgdmalobagncpaaDoor.Reach
