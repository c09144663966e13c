/- The operations are sound: part 5: slices, on. -/
import Derived.Test.YtjglohfkpigdfaaDoorAmS4
set_option linter.unusedSimpArgs false
set_option linter.unusedVariables false
set_option linter.unusedSectionVars false
set_option linter.unnecessarySimpa false
namespace Am
open Go Go.RowKit
section
variable {P : Program} {R : Ro} {base : World} {ρ : Ren} {H H' : AH} {w : World} {e : Env} {ev : Operand → Value}

theorem addr_slice (l : Loc) {off : Nat} {A : Addr} (hA : l.addr ρ off = some A) (m lw sz : Nat) : l.addr ρ (if m = lw then off else off + lw * sz) = some (if m = lw then A else A.add (lw * sz)) := by
  split
  · exact hA
  · exact addr_off hA

theorem s_sliceA (hrel : Rel base ρ H w) (he : EvOk ρ e ev) {t el : TypeId} {n sz : Nat} {a : Operand} {a' : X} {lo hi : Option Operand} {lo' hi' : Option X} (ha : cx a = some a') (hl : cxo lo = some lo') (hh : cxo hi = some hi') (hu : P.underlying t = some (.array n el)) (hs : sizeC P el = some sz) {v : AV}
    (h : (AOp.sliceA n sz a' lo' hi').eval P R e H = some (v, H')) {o : Oper} (ho : o.op = .slice t a lo hi none) : YieldsS ρ w H ((execOp ev o).run P w) v H' := by
  have h1 := cx_ok he ha
  simp only [AOp.eval] at h
  split at h
  · rename_i l off hx
    split at h
    · rename_i hn e2
      split at h
      · rename_i ln e3
        cases h
        rw [hx] at h1
        obtain ⟨A, hA, h1⟩ := ren_ptr h1
        have hb := bounds_ok (P := P) (ρ := ρ) false (len := n) (cap := n) (.inl ⟨rfl, rfl⟩) (opt_map he hh) (opt_map he hl) rfl e2 e3 (fun _ => rfl) w
        simp only [execOp, ho, h1]
        simp [Instr.sliceAt, und_ok hu, Instr.sureAddr, hb, sizeC_ok hs]
        exact YieldsS.same hrel (by simp only [ren, addr_slice l hA n ln sz, Cap.num])
      · cases h
    · cases h
  · cases h

/-- A slicing's run, its bounds known. -/
theorem run_slice {t el : TypeId} {sz : Nat} (hu : P.underlying t = some (.slice el)) (hs : sizeC P el = some sz) {a : Option Addr} {len cap l h m : Nat} {LO HI MX : Option Value} (w : World)
    (hb : (Instr.sliceBounds true len cap LO HI MX).run P w = .ok (l, h, m) w) :
    (Instr.sliceAt t (.slice a len cap) LO HI MX).run P w = .ok (.slice (if m = l then a else a.map (·.add (l * sz))) (h - l) (m - l)) w := by
  simp [Instr.sliceAt, Instr.slice, und_ok hu, hb, sizeC_ok hs]

theorem bound_le {d y : Nat} {o : Option AV} {n : Nat} (h : boundEv d y o = some n) : n = d ∨ n ≤ y := by
  unfold boundEv at h
  split at h
  · cases h; exact .inl rfl
  · split at h
    · cases h; exact .inr (by omega)
    · cases h
  · cases h

/-- A bound that holds for a capacity holds for a greater one. -/
theorem bound_mono {d y y' : Nat} (hy : y ≤ y') {o : Option AV} {n : Nat} (h : boundEv d y o = some n) : boundEv d y' o = some n := by
  unfold boundEv at h ⊢
  split at h
  · exact h
  · split at h
    · rw [if_pos (by omega)]; exact h
    · cases h
  · cases h

theorem bound_some (d d' y : Nat) (x : AV) : boundEv d y (some x) = boundEv d' y (some x) := by
  unfold boundEv; cases x <;> rfl

theorem open_new (p : Slot) (n : Nat) (hl : ρ.length = H.length) : ren (ρ ++ [p]) (.slice (.mu H.length) 0 n (.opn 0)) = some (.slice (some ⟨p.blk, p.sh, none⟩) n p.ecap) := by
  simp [ren, Cap.num, ← hl]
  simp [Loc.addr]

theorem s_slice (hrel : Rel base ρ H w) (he : EvOk ρ e ev) {t el : TypeId} {sz : Nat} {a : Operand} {a' : X} {lo hi mx : Option Operand} {lo' hi' mx' : Option X} (ha : cx a = some a') (hl : cxo lo = some lo') (hh : cxo hi = some hi') (hm : cxo mx = some mx') (hno : hi = none → mx = none) (hu : P.underlying t = some (.slice el)) (hs : sizeC P el = some sz) {v : AV}
    (h : (AOp.slice sz a' lo' hi' mx').eval P R e H = some (v, H')) {o : Oper} (ho : o.op = .slice t a lo hi mx) : Yields base ρ ((execOp ev o).run P w) v H' := by
  have h1 := cx_ok he ha
  have g1 := opt_map he hm
  have g2 := opt_map he hh
  have g3 := opt_map he hl
  have hno' : hi'.map (X.ev e) = none → mx'.map (X.ev e) = none := by
    intro h0
    have : hi = none := by
      rcases cxo_ok he hh with ⟨h1, _⟩ | ⟨a, b, _, rfl, _⟩
      · exact h1
      · simp at h0
    have := hno this
    subst this
    simp [cxo] at hm
    subst hm; rfl
  simp only [AOp.eval] at h
  have hrunS : (execOp ev o).run P w = ((Instr.sliceAt t (ev a) (lo.map ev) (hi.map ev) (mx.map ev)).run P w).andThen fun x w' => .ok (.value x) w' := by
    simp only [execOp, ho]; simp
  rw [hrunS]
  generalize lo.map ev = LO at *
  generalize hi.map ev = HI at *
  generalize mx.map ev = MX at *
  generalize lo'.map (X.ev e) = lo2 at *
  generalize hi'.map (X.ev e) = hi2 at *
  generalize mx'.map (X.ev e) = mx2 at *
  generalize X.ev e a' = A at *
  generalize ev a = A' at *
  unfold sliceEv at h
  split at h
  · -- nil
    simp only [ren, Option.some.injEq] at h1
    subst h1
    split at h
    · rename_i m e1
      split at h
      · rename_i hh e2
        split at h
        · rename_i lw e3
          cases h
          have l1 := bound_le e1
          have l2 := bound_le e2
          have l3 := bound_le e3
          have hb := bounds_ok (P := P) (ρ := ρ) true (len := 0) (cap := 0) g1 g2 g3 e1 e2 e3 hno' w
          rw [run_slice hu hs w hb]
          simp
          rw [show hh - lw = 0 from by omega, show m - lw = 0 from by omega]
          exact Yields.same hrel rfl
        · cases h
      · cases h
    · cases h
  · -- known
    rename_i l off ln c
    obtain ⟨A, n, hA, hc, rfl⟩ := ren_slice h1
    simp only [Cap.num] at hc
    have hc : c = n := by cases l <;> simpa using hc
    subst hc
    split at h
    · rename_i m e1
      split at h
      · rename_i hh e2
        split at h
        · rename_i lw e3
          cases h
          have hb := bounds_ok (P := P) (ρ := ρ) true (len := ln) (cap := c) g1 g2 g3 e1 e2 e3 hno' w
          rw [run_slice hu hs w hb]
          simp only [Result.andThen_ok]
          refine Yields.same hrel ?_
          simp only [ren, addr_slice l hA m lw sz, Cap.num]
          by_cases hml : m = lw <;> simp [hml]
        · cases h
      · cases h
    · cases h
  · -- open
    rename_i i off ln eo
    obtain ⟨A, n, hA, hc, rfl⟩ := ren_slice h1
    split at h
    · rename_i c t' sz' hi
      split at h
      · rename_i hcond
        obtain ⟨rfl, hoff, hsz, hoc⟩ := hcond
        simp only [Loc.addr, Option.map_eq_some_iff] at hA
        obtain ⟨p, hp, rfl⟩ := hA
        simp only [Cap.num, Option.map_eq_some_iff] at hc
        obtain ⟨p', hp', rfl⟩ := hc
        rw [hp] at hp'; cases hp'
        obtain ⟨C, cs, d1, d2, d3, d4, d5⟩ := hrel.obj i _ p hi hp
        have hlc := renL_length d2
        have htop : (c.length - off) / sz' ≤ p.ecap - eo := by
          have h6 : c.length - off ≤ (p.ecap - eo) * sz' := by rw [Nat.sub_mul]; omega
          calc (c.length - off) / sz' ≤ ((p.ecap - eo) * sz') / sz' := Nat.div_le_div_right h6
            _ = p.ecap - eo := Nat.mul_div_cancel _ (Nat.pos_of_ne_zero hsz)
        split at h
        · rename_i x0 mv
          dsimp only at h
          split at h
          · rename_i m e1
            split at h
            · rename_i hh e2
              split at h
              · rename_i lw e3
                cases h
                have e1' : boundEv (p.ecap - eo) (p.ecap - eo) (some mv) = some m := by
                  rw [bound_some _ 0]; exact bound_mono htop e1
                have hb := bounds_ok (P := P) (ρ := ρ) true (len := ln) (cap := p.ecap - eo) g1 g2 g3 e1' e2 e3 hno' w
                rw [run_slice hu hs w hb]
                simp only [Result.andThen_ok]
                refine Yields.same hrel ?_
                simp only [ren]
                rw [addr_slice (.mu i) (A := ⟨p.blk, p.sh + off, none⟩) (by simp [Loc.addr, hp]) m lw sz']
                simp only [Cap.num]
                by_cases hml : m = lw <;> simp [hml]
              · cases h
            · cases h
          · cases h
        · dsimp only at h
          split at h
          · rename_i hh e2
            split at h
            · rename_i htp
              split at h
              · rename_i lw e3
                have l3 := bound_le e3
                have e2' : boundEv ln (p.ecap - eo) hi2 = some hh := bound_mono htop e2
                have hb := bounds_ok (P := P) (ρ := ρ) true (len := ln) (cap := p.ecap - eo) g1 g2 g3 rfl e2' e3 hno' w
                rw [run_slice hu hs w hb]
                simp only [Result.andThen_ok]
                split at h
                · rename_i hlw
                  subst hlw
                  cases h
                  refine Yields.same hrel ?_
                  simp only [ren, Loc.addr, hp, Cap.num, Option.map_some]
                  by_cases hml : p.ecap - eo = 0 <;> simp [hml, Addr.add]
                · rename_i hlw
                  split at h
                  · rename_i hlt
                    cases h
                    refine Yields.same hrel ?_
                    simp only [ren, Loc.addr, hp, Cap.num, Option.map_some]
                    rw [if_neg (by omega)]
                    simp [addr_add, Nat.add_assoc, Nat.sub_sub]
                  · rename_i hge
                    cases h
                    have hlh : lw = hh := by omega
                    subst hlh
                    have hbig : p.sh + off + (p.ecap - eo) * sz' ≤ C.size ∨ p.ecap < eo := by
                      by_cases h9 : p.ecap < eo
                      · exact .inr h9
                      · left
                        have : off + (p.ecap - eo) * sz' = p.ecap * sz' := by
                          rw [hoff, ← Nat.add_mul]; congr 1; omega
                        omega
                    have hle : lw ≤ p.ecap - eo := by omega
                    have hbig : p.sh + off + (p.ecap - eo) * sz' ≤ C.size := by rcases hbig with h | h <;> omega
                    have hmul : (p.ecap - eo) * sz' = lw * sz' + (p.ecap - eo - lw) * sz' := by rw [← Nat.add_mul]; congr 1; omega
                    by_cases hml : p.ecap - eo = lw
                    · refine ⟨ρ ++ [⟨p.blk, p.sh + off, 0⟩], w, .slice (some ⟨p.blk, p.sh + off, none⟩) 0 0, .inl ?_, Ext.mk _ _, ?_, ?_⟩
                      · simp [hml]
                      · exact hrel.pushDead _
                      · rw [open_new _ _ hrel.len]
                    · refine ⟨ρ ++ [⟨p.blk, p.sh + off + lw * sz', p.ecap - eo - lw⟩], w, .slice (some ⟨p.blk, p.sh + off + lw * sz', none⟩) 0 (p.ecap - eo - lw), .inl ?_, Ext.mk _ _, ?_, ?_⟩
                      · simp [hml, addr_add]
                      · exact hrel.pushDead _
                      · rw [open_new _ _ hrel.len]
              · cases h
            · cases h
          · cases h
      · cases h
    · cases h
  · cases h
end
end Am
