/- What the laws reach: the listed variables, read as a world's cells: what lies below. -/
import Derived.Test.YthcpfmibcoeleaaDoorCtrs
import Derived.Test.YthcpfmibcoeleaaDoorAmFlat
import Derived.Test.YthcpfmibcoeleaaDoorCmParse
import Derived.Test.YthcpfmibcoeleaaDoorNamesA
namespace Go.Proofs.YthcpfmibcoeleaaDoor.CmReach
open Go Go.RowKit Am
set_option maxRecDepth 100000
set_option linter.unusedSimpArgs false
theorem ACalls.base {P : Program} {R R' : Ro} {f : FuncId} {args : List AV} {H : AH} {K : AV → AH → Prop} (hR : ∀ base, ROk R' base → ROk R base) (h : ACalls P R f args H K) : ACalls P R' f args H K :=
  fun base hb => h base (hR base hb)
variable {w : World} {m : Int} {l0 o0 l1 o1 : Nat}
theorem reads {b o : Nat} {v : AV} (h : Laid.ro m l0 o0 l1 o1 b o = some v) : (∃ k z, v = .int k z) ∨ ∃ t l p, v = .iface t (.ptr (.ro l) p) := by
  change Laid.roF m l0 o0 l1 o1 b o = some v at h
  unfold Laid.roF at h
  split at h
  · obtain ⟨z, _, rfl⟩ := Option.map_eq_some_iff.1 h; exact .inl ⟨_, _, rfl⟩
  · obtain ⟨z, _, rfl⟩ := Option.map_eq_some_iff.1 h; exact .inl ⟨_, _, rfl⟩
  · obtain ⟨z, _, rfl⟩ := Option.map_eq_some_iff.1 h; exact .inl ⟨_, _, rfl⟩
  · split at h
    · cases h; exact .inr ⟨_, _, _, rfl⟩
    · cases h
  · split at h
    · cases h; exact .inr ⟨_, _, _, rfl⟩
    · cases h
  · split at h
    · cases h; exact .inl ⟨_, _, rfl⟩
    · cases h
  · cases h
theorem roW_int (hR : ROk (Laid.ro m l0 o0 l1 o1) w) {b o : Nat} {k : IntKind} {z : Int} (h : Laid.ro m l0 o0 l1 o1 b o = some (.int k z)) : roW w b o = some (.int k z) := by
  obtain ⟨_, x, hx, hc⟩ := hR b o _ h
  simp only [ren, Option.some.injEq] at hx
  subst hx
  simp [roW, hc, absV]
theorem sub (hR : ROk (Laid.ro m l0 o0 l1 o1) w) : ∀ base, ROk (roW w) base → ROk (Laid.ro m l0 o0 l1 o1) base := by
  intro base hb
  refine ⟨fun b o v hv => ?_, (Laid.ro m l0 o0 l1 o1).up _ _ hb.good hR.good⟩
  obtain ⟨_, x, hx, hc⟩ := hR b o v hv
  rcases reads hv with ⟨k, z, rfl⟩ | ⟨t, l, p, rfl⟩
  · exact hb b o _ (roW_int hR hv)
  · have hx' : x = .iface t (.pointer (some ⟨l, p, none⟩)) := by
      have := hx
      simp [ren, Am.Loc.addr] at this
      exact this.symm
    subst hx'
    have hab : absV (.iface t (.pointer (some ⟨l, p, none⟩))) = some (.raw (.iface t (.pointer (some ⟨l, p, none⟩)))) := by simp [absV]; rfl
    have hw : roW w b o = some (.raw (.iface t (.pointer (some ⟨l, p, none⟩)))) := by simp [roW, hc, hab]
    obtain ⟨h1, y, hy, hc2⟩ := hb b o _ hw
    refine ⟨h1, _, hx, ?_⟩
    rw [hc2, ← absV_ren hab]
    exact hy.symm
end Go.Proofs.YthcpfmibcoeleaaDoor.CmReach
namespace Go.Proofs.YthcpfmibcoeleaaDoor.CmReach
open Go Go.RowKit Am
set_option linter.unusedSimpArgs false
variable {w : World} {m : Int} {l0 o0 l1 o1 : Nat}
theorem pow10 : Laid.zs2 = Lib.pow10Tab := by decide
theorem cut_use {R : Ro} {f : FuncId} (hc : CtrOk Tryd.prog R f ctrCut) (s sep : List UInt8) (hs : s.length ≤ 10000) (H : AH) : ACalls Tryd.prog R f [.str s, .str sep] H fun v H' => v = .tuple [.str (Lib.cut s sep).1, .str (Lib.cut s sep).2.1, .bool (Lib.cut s sep).2.2] ∧ H' = H := by
  refine hc.use fun h sm k hk => ?_
  unfold ctrCut
  dsimp only
  refine chk_mk (Nat.ble_eq_true_of_le hs) ?_
  rw [fStr_eq, fStr_eq, fB_eq]
  exact hk _ _ _ H sm ⟨rfl, rfl⟩
theorem lc (hR : ROk (Laid.ro m l0 o0 l1 o1) w) : Cm.Lc (roW w) where
  itoa := fun n H h0 h1 => itoa_use h0 h1 (fun base hb => by
      have hg : Laid.good base := (Laid.ro m l0 o0 l1 o1).up _ _ hb.good hR.good
      rw [← pow10]
      exact hg.2.2.1)
    (fun w' ht => (Tryd.strconv_Itoa n h0 h1 w' ht).mono fun e w2 ⟨e1, k, os, e2⟩ => ⟨e1, by rw [e2]; exact Lib.below_grow _ _ (Nat.le_refl _) _ _⟩) H
  join := fun hi sep h1 h2 => ACalls.base (sub hR) (join_use (Fns.ctr_ok m l0 o0 l1 o1 41 _ rfl) hi sep h1 h2)
  split := fun s sep H h1 h2 => (ACalls.base (sub hR) (split_use (Fns.ctr_ok m l0 o0 l1 o1 45 _ rfl) s sep h1 h2 H)).mono fun v H' ⟨e1, e2⟩ => ⟨e1, _, e2⟩
  atoi := fun s H h1 => (ACalls.base (sub hR) (atoi_use (Fns.ctr_ok m l0 o0 l1 o1 43 _ rfl) s h1 H)).mono fun v H' h => by
    cases hq : Lib.atoiAll s with
    | ok z =>
      rw [hq] at h
      obtain ⟨rfl, rfl⟩ := h
      exact ⟨z, .niface, [], rfl, by simp, fun z' e => by cases e; exact ⟨rfl, rfl⟩, fun hn => absurd rfl (hn z)⟩
    | _ =>
      rw [hq] at h
      obtain ⟨z, rfl, rfl⟩ := h
      exact ⟨z, _, _, rfl, rfl, fun z' e => (by cases e), fun _ => ⟨_, _, rfl⟩⟩
  cut := fun s H h1 => by
    have h := ACalls.base (sub hR) (cut_use (Fns.ctr_ok m l0 o0 l1 o1 23 _ rfl) s [32] h1 H)
    rw [Cm.cut_eq] at h
    exact h
theorem wakes (hR : ROk (Laid.ro m l0 o0 l1 o1) w) (H : AH) : ACalls Tryd.prog (roW w) 9 [] H fun v H' => H' = H ∧ v = .bool true := ACalls.base (sub hR) (Names.awake m l0 o0 l1 o1 H)
end Go.Proofs.YthcpfmibcoeleaaDoor.CmReach
