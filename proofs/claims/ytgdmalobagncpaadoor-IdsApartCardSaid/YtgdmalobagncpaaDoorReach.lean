/- What the laws reach: the listed variables, read as a world's cells. -/
import Derived.Test.YtgdmalobagncpaaDoorCount
namespace Go.Proofs.YtgdmalobagncpaaDoor.Reach
open Go Go.RowKit Am Latt
set_option maxRecDepth 100000
set_option linter.unusedSimpArgs false
theorem ACalls.base {P : Program} {R R' : Ro} {f : FuncId} {args : List AV} {H : AH} {K : AV → AH → Prop} (hR : ∀ base, ROk R' base → ROk R base) (h : ACalls P R f args H K) : ACalls P R' f args H K :=
  fun base hb => h base (hR base hb)
variable {w : World} {m : Int} {l0 o0 l1 o1 : Nat}
theorem reads {b o : Nat} {v : AV} (h : Laid.ro m l0 o0 l1 o1 b o = some v) : (∃ k z, v = .int k z) ∨ ∃ t l p, v = .iface t (.ptr (.ro l) p) := by
  unfold Laid.ro at h
  split at h
  · obtain ⟨z, _, rfl⟩ := Option.map_eq_some_iff.1 h; exact .inl ⟨_, _, rfl⟩
  · obtain ⟨z, _, rfl⟩ := Option.map_eq_some_iff.1 h; exact .inl ⟨_, _, rfl⟩
  · obtain ⟨z, _, rfl⟩ := Option.map_eq_some_iff.1 h; exact .inl ⟨_, _, rfl⟩
  · split at h
    · cases h; exact .inr ⟨_, _, _, rfl⟩
    · cases h
  · split at h
    · cases h; exact .inr ⟨_, _, _, rfl⟩
    · cases h
  · split at h
    · cases h; exact .inl ⟨_, _, rfl⟩
    · cases h
  · cases h
theorem roW_int (hR : ROk (Laid.ro m l0 o0 l1 o1) w) {b o : Nat} {k : IntKind} {z : Int} (h : Laid.ro m l0 o0 l1 o1 b o = some (.int k z)) : roW w b o = some (.int k z) := by
  obtain ⟨_, x, hx, hc⟩ := hR b o _ h
  simp only [ren, Option.some.injEq] at hx
  subst hx
  simp [roW, hc, absV]
theorem sub (hR : ROk (Laid.ro m l0 o0 l1 o1) w) : ∀ base, ROk (roW w) base → ROk (Laid.ro m l0 o0 l1 o1) base := by
  intro base hb b o v hv
  obtain ⟨_, x, hx, hc⟩ := hR b o v hv
  rcases reads hv with ⟨k, z, rfl⟩ | ⟨t, l, p, rfl⟩
  · exact hb b o _ (roW_int hR hv)
  · have hx' : x = .iface t (.pointer (some ⟨l, p, none⟩)) := by
      have := hx
      simp [ren, Am.Loc.addr] at this
      exact this.symm
    subst hx'
    have hab : absV (.iface t (.pointer (some ⟨l, p, none⟩))) = some (.raw (.iface t (.pointer (some ⟨l, p, none⟩)))) := by simp [absV]; rfl
    have hw : roW w b o = some (.raw (.iface t (.pointer (some ⟨l, p, none⟩)))) := by simp [roW, hc, hab]
    obtain ⟨h1, y, hy, hc2⟩ := hb b o _ hw
    refine ⟨h1, _, hx, ?_⟩
    rw [hc2, ← absV_ren hab]
    exact hy.symm
theorem tab (hR : ROk (Laid.ro m l0 o0 l1 o1) w) : HasTab (roW w) := by
  intro j hj
  refine roW_int hR ?_
  have h : ∀ j : Fin 64, Laid.zs1[j.val]? = some ((Lib.deBruijn64tab.getD j.val 0 : Nat) : Int) := by decide
  have := h ⟨j, hj⟩
  show (Laid.zs1[j]?).map _ = _
  rw [this]
  rfl
theorem count (hR : ROk (Laid.ro m l0 o0 l1 o1) w) (r : Int) (hw : (Lit.int .u8 r).wf = true) (a : AV) (L : List (List AV)) (hs : Sl (roW w) 1 a L) (hi : ∀ x ∈ L, Shape [.int .i64] x) :
    ACalls Tryd.prog (roW w) 5 [.int .u8 r, a] [] fun v _ => v = .bool true :=
  Cnt.count (tab hR) (fun H => ACalls.base (sub hR) (Nobody.awake m l0 o0 l1 o1 H)) (by
    have h1 : (IntKind.u8.min : Int) = 0 := by decide
    have h2 : (IntKind.u8.max : Int) = 255 := by decide
    simp [Lit.wf, h1, h2] at hw
    omega) hs hi
end Go.Proofs.YtgdmalobagncpaaDoor.Reach
