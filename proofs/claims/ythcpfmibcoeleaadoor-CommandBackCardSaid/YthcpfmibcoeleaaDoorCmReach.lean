/- What the laws reach: the listed variables, read as a world's cells: what lies below. -/
import Derived.Test.YthcpfmibcoeleaaDoorCtrs
import Derived.Test.YthcpfmibcoeleaaDoorAmFlat
namespace Go.Proofs.YthcpfmibcoeleaaDoor.CmReach
open Go Go.RowKit Am
set_option maxRecDepth 100000
set_option linter.unusedSimpArgs false
theorem ACalls.base {P : Program} {R R' : Ro} {f : FuncId} {args : List AV} {H : AH} {K : AV → AH → Prop} (hR : ∀ base, ROk R' base → ROk R base) (h : ACalls P R f args H K) : ACalls P R' f args H K :=
  fun base hb => h base (hR base hb)
variable {w : World} {m : Int} {l0 o0 l1 o1 : Nat}
theorem reads {b o : Nat} {v : AV} (h : Laid.ro m l0 o0 l1 o1 b o = some v) : (∃ k z, v = .int k z) ∨ ∃ t l p, v = .iface t (.ptr (.ro l) p) := by
  change Laid.roF m l0 o0 l1 o1 b o = some v at h
  unfold Laid.roF at h
  split at h
  · obtain ⟨z, _, rfl⟩ := Option.map_eq_some_iff.1 h; exact .inl ⟨_, _, rfl⟩
  · obtain ⟨z, _, rfl⟩ := Option.map_eq_some_iff.1 h; exact .inl ⟨_, _, rfl⟩
  · obtain ⟨z, _, rfl⟩ := Option.map_eq_some_iff.1 h; exact .inl ⟨_, _, rfl⟩
  · split at h
    · cases h; exact .inr ⟨_, _, _, rfl⟩
    · cases h
  · split at h
    · cases h; exact .inr ⟨_, _, _, rfl⟩
    · cases h
  · split at h
    · cases h; exact .inl ⟨_, _, rfl⟩
    · cases h
  · cases h
theorem roW_int (hR : ROk (Laid.ro m l0 o0 l1 o1) w) {b o : Nat} {k : IntKind} {z : Int} (h : Laid.ro m l0 o0 l1 o1 b o = some (.int k z)) : roW w b o = some (.int k z) := by
  obtain ⟨_, x, hx, hc⟩ := hR b o _ h
  simp only [ren, Option.some.injEq] at hx
  subst hx
  simp [roW, hc, absV]
theorem sub (hR : ROk (Laid.ro m l0 o0 l1 o1) w) : ∀ base, ROk (roW w) base → ROk (Laid.ro m l0 o0 l1 o1) base := by
  intro base hb
  refine ⟨fun b o v hv => ?_, (Laid.ro m l0 o0 l1 o1).up _ _ hb.good hR.good⟩
  obtain ⟨_, x, hx, hc⟩ := hR b o v hv
  rcases reads hv with ⟨k, z, rfl⟩ | ⟨t, l, p, rfl⟩
  · exact hb b o _ (roW_int hR hv)
  · have hx' : x = .iface t (.pointer (some ⟨l, p, none⟩)) := by
      have := hx
      simp [ren, Am.Loc.addr] at this
      exact this.symm
    subst hx'
    have hab : absV (.iface t (.pointer (some ⟨l, p, none⟩))) = some (.raw (.iface t (.pointer (some ⟨l, p, none⟩)))) := by simp [absV]; rfl
    have hw : roW w b o = some (.raw (.iface t (.pointer (some ⟨l, p, none⟩)))) := by simp [roW, hc, hab]
    obtain ⟨h1, y, hy, hc2⟩ := hb b o _ hw
    refine ⟨h1, _, hx, ?_⟩
    rw [hc2, ← absV_ren hab]
    exact hy.symm
end Go.Proofs.YthcpfmibcoeleaaDoor.CmReach
