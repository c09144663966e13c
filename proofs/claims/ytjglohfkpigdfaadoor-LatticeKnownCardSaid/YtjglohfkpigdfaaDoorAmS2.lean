/- The operations are sound: part 2. -/
import Derived.Test.YtjglohfkpigdfaaDoorAmS1
import Derived.Laws.Strings
set_option linter.unusedSimpArgs false
set_option linter.unusedVariables false
set_option linter.unusedSectionVars false
set_option linter.unnecessarySimpa false
namespace Am
open Go Go.RowKit
section
variable {P : Program} {R : Ro} {base : World} {ρ : Ren} {H H' : AH} {w : World} {e : Env} {ev : Operand → Value}

theorem pureRun_run {α : Type} : ∀ {s : Sem α} {a : α}, pureRun P s = some a → ∀ w, s.run P w = .ok a w
  | .pure b, a, h, w => by simp only [pureRun] at h; cases h; rfl
  | .program k, a, h, w => by simp only [pureRun] at h; exact pureRun_run (s := k P) h w
  | .mark _ k, a, h, w => by simp only [pureRun] at h; exact pureRun_run (s := k) h w
  | .load _ _ _, _, h, _ => by simp [pureRun] at h
  | .store _ _ _ _, _, h, _ => by simp [pureRun] at h
  | .new _ _, _, h, _ => by simp [pureRun] at h
  | .shape _ _, _, h, _ => by simp [pureRun] at h
  | .freeze _ _ _, _, h, _ => by simp [pureRun] at h
  | .frozen _ _, _, h, _ => by simp [pureRun] at h
  | .getObj _ _, _, h, _ => by simp [pureRun] at h
  | .setObj _ _ _, _, h, _ => by simp [pureRun] at h
  | .choose _ _, _, h, _ => by simp [pureRun] at h
  | .sys _ _, _, h, _ => by simp [pureRun] at h
  | .halt _, _, h, _ => by simp [pureRun] at h

theorem conc0_ok {v : AV} {x : Value} (h : conc0 v = some x) (ρ : Ren) : ren ρ v = some x := by
  unfold conc0 at h
  split at h <;> cases h <;> rfl
theorem conc0L_ok : ∀ {vs : List AV} {xs : List Value}, conc0L vs = some xs → ∀ ρ, renL ρ vs = some xs
  | [], xs, h, ρ => by simp only [conc0L] at h; cases h; rfl
  | v :: vs, xs, h, ρ => by
    simp only [conc0L] at h
    split at h
    · cases h; exact renL_cons_mk (conc0_ok ‹_› ρ) (conc0L_ok ‹_› ρ)
    · cases h
theorem conc_ok {v : AV} {x : Value} (h : conc v = some x) (ρ : Ren) : ren ρ v = some x := by
  unfold conc at h
  split at h
  · simp only [Option.map_eq_some_iff] at h
    obtain ⟨l, hl, rfl⟩ := h
    simp [ren, conc0L_ok hl ρ]
  · exact conc0_ok h ρ


theorem s_bin (hrel : Rel base ρ H w) (he : EvOk ρ e ev) {op : BinOp} {t yt : TypeId} {a b : Operand} {a' b' : X} (ha : cx a = some a') (hb : cx b = some b') {v : AV}
    (h : (AOp.bin op a' b').eval P R e H = some (v, H')) {o : Oper} (ho : o.op = .binOp op t a b yt) : YieldsS ρ w H ((execOp ev o).run P w) v H' := by
  simp only [AOp.eval, Option.map_eq_some_iff] at h
  obtain ⟨u, hu, h⟩ := h
  cases h
  have h1 := cx_ok he ha
  have h2 := cx_ok he hb
  generalize X.ev e a' = A at *
  generalize X.ev e b' = B at *
  unfold binEv at hu
  split at hu
  · rename_i k x yk y
    have h1 := ren_int h1
    have h2 := ren_int h2
    have hg : (eqGuard op t a b (ev a) (ev b)).run P w = .ok () w := by
      rw [h1, h2]; unfold eqGuard; cases op <;> simp
    have key : ∃ z, ren ρ v = some z ∧ (binOp op t (ev a) (ev b)).run P w = .ok z w := by
      rw [h1, h2]
      split at hu
      · split at hu
        · cases hu
        · cases hu; rename_i hn; exact ⟨_, rfl, by simp [binOp, Op.shift, hn]⟩
      · split at hu
        · cases hu
        · cases hu; rename_i hn; exact ⟨_, rfl, by simp [binOp, Op.shift, hn]⟩
      · split at hu
        · rename_i n1 n2 hk
          subst hk
          unfold intBin at hu
          split at hu <;> first
            | (cases hu; exact ⟨_, rfl, by simp [binOp, Op.intArith, Op.intBits, Op.intCmp]⟩)
            | (split at hu
               · cases hu
               · cases hu; rename_i hz; exact ⟨_, rfl, by simp [binOp, Op.intDiv, hz]⟩)
            | cases hu
        · cases hu
    obtain ⟨z, hz, hrun⟩ := key
    simp only [execOp, ho]
    simp [hg, hrun]
    exact YieldsS.same hrel hz
  · rename_i x y
    have h1 := ren_str h1
    have h2 := ren_str h2
    have hg : (eqGuard op t a b (ev a) (ev b)).run P w = .ok () w := by
      rw [h1, h2]; unfold eqGuard; cases op <;> simp
    have key : ∃ z, ren ρ v = some z ∧ (binOp op t (ev a) (ev b)).run P w = .ok z w := by
      rw [h1, h2]
      have e1 : (ByteArray.mk ⟨x⟩).toList = x := ByteArray.toList_mk x
      have e2 : (ByteArray.mk ⟨y⟩).toList = y := ByteArray.toList_mk y
      unfold strBin at hu
      split at hu <;> first
        | (split at hu
           · rename_i hl
             cases hu
             refine ⟨_, rfl, ?_⟩
             have hs : (ByteArray.mk ⟨x⟩).size = x.length := rfl
             have hs' : (ByteArray.mk ⟨y⟩).size = y.length := rfl
             have hap : ByteArray.mk ⟨x⟩ ++ ByteArray.mk ⟨y⟩ = ByteArray.mk ⟨x ++ y⟩ := by
               apply ByteArray.ext
               rw [ByteArray.data_append]
               simp
             simp only [binOp, Op.stringOp, hap]
             rw [hs, hs', if_neg (by simp only [IntKind.max, IntKind.signed, IntKind.bits]; simp; omega)]
             rfl
           · cases hu)
        | (cases hu; exact ⟨_, rfl, by simp [binOp, Op.stringOp, e1, e2]⟩)
        | cases hu
    obtain ⟨z, hz, hrun⟩ := key
    simp only [execOp, ho]
    simp [hg, hrun]
    exact YieldsS.same hrel hz
  · cases hu

theorem eqGuard_agg (t : TypeId) (x y x' y' : Operand) (A B : Array Value) (op : BinOp) (hop : op = .eql ∨ op = .neq) (w : World) :
    (eqGuard op t x y (.agg A) (.agg B)).run P w = (eqGuard .eql t x' y' (.agg A) (.agg B)).run P w := by
  rcases hop with rfl | rfl <;> rfl


theorem eq_finish (hrel : Rel base ρ H w) {op : BinOp} {t yt : TypeId} {a b : Operand} {neg : Bool}
    (hop : (op = .eql ∧ neg = false) ∨ (op = .neq ∧ neg = true)) {u : Bool} {x y : Value} (hx : ev a = x) (hy : ev b = y)
    (hg : (eqGuard op t a b x y).run P w = .ok () w) (hq : (Op.equal t x y).run P w = .ok u w)
    (hb1 : binOp .eql t x y = Op.equal t x y >>= fun r => pure (.bool r)) (hb2 : binOp .neq t x y = Op.equal t x y >>= fun r => pure (.bool !r))
    {o : Oper} (ho : o.op = .binOp op t a b yt) : YieldsS ρ w H ((execOp ev o).run P w) (.bool (if neg then !u else u)) H := by
  simp only [execOp, ho, hx, hy]
  rcases hop with ⟨rfl, rfl⟩ | ⟨rfl, rfl⟩
  · simp [hg, hb1, hq]; exact YieldsS.same hrel rfl
  · simp [hg, hb2, hq]; exact YieldsS.same hrel rfl

theorem equal_of {t : TypeId} {x y : Value} {u : Bool} (h : ∀ d, (Op.equalIn (d + 1) t x y).run P w = .ok u w) : (Op.equal t x y).run P w = .ok u w := h 9999

set_option maxRecDepth 20000 in
theorem s_eq (hrel : Rel base ρ H w) (he : EvOk ρ e ev) {op : BinOp} {t yt : TypeId} {k : TypeDesc} {a b : Operand} {a' b' : X} (ha : cx a = some a') (hb : cx b = some b') {neg : Bool}
    (hop : (op = .eql ∧ neg = false) ∨ (op = .neq ∧ neg = true)) (hk : P.underlying t = some k) {v : AV}
    (h : (AOp.eq neg t k a' b').eval P R e H = some (v, H')) {o : Oper} (ho : o.op = .binOp op t a b yt) : YieldsS ρ w H ((execOp ev o).run P w) v H' := by
  simp only [AOp.eval, Option.map_eq_some_iff] at h
  obtain ⟨u, hu, h⟩ := h
  cases h
  have h1 := cx_ok he ha
  have h2 := cx_ok he hb
  have hop' : op = .eql ∨ op = .neq := by rcases hop with ⟨h, _⟩ | ⟨h, _⟩ <;> simp [h]
  have hu2 : ∀ w, (underlying t).run P w = .ok k w := und_ok hk
  have hconst : b' = .c .niface → ∃ q, b = .const q := by
    intro h0
    subst h0
    cases b with
    | const q => exact ⟨q, rfl⟩
    | tmp q => simp [cx] at hb
    | func q => simp [cx] at hb
    | global q => simp [cx] at hb
  have key : (∃ ms, k = .interface ms ∧ b' = .c .niface ∧ ((X.ev e a' = .niface ∧ u = true) ∨ ∃ t v, X.ev e a' = .iface t v ∧ u = false)) ∨ eqEv P t k (X.ev e a') (X.ev e b') = some u := by
    unfold eqX at hu
    split at hu
    · rename_i hA
      cases hu
      exact .inl ⟨_, rfl, rfl, .inl ⟨hA, rfl⟩⟩
    · rename_i hA
      cases hu
      exact .inl ⟨_, rfl, rfl, .inr ⟨_, _, hA, rfl⟩⟩
    · exact .inr hu
  rcases key with ⟨ms, rfl, rfl, ⟨hA, rfl⟩ | ⟨t', v', hA, rfl⟩⟩ | hu
  · obtain ⟨q, rfl⟩ := hconst rfl
    rw [hA] at h1
    simp only [ren, X.ev, Option.some.injEq] at h1 h2
    exact eq_finish hrel hop h1.symm h2.symm (by unfold eqGuard; rcases hop' with rfl | rfl <;> simp) (equal_of fun d => by simp [Op.equalIn, hu2]) rfl rfl ho
  · rw [hA] at h1
    simp only [ren, X.ev, Option.some.injEq, Option.map_eq_some_iff] at h1 h2
    obtain ⟨y, _, h1⟩ := h1
    exact eq_finish hrel hop h1.symm h2.symm (by unfold eqGuard; rcases hop' with rfl | rfl <;> simp) (equal_of fun d => by simp [Op.equalIn, hu2]) rfl rfl ho
  clear hconst
  generalize X.ev e a' = A at *
  generalize X.ev e b' = B at *
  unfold eqEv at hu
  split at hu
  case h_1 p q =>
    cases hu
    exact eq_finish hrel hop (ren_bool h1) (ren_bool h2) (by unfold eqGuard; rcases hop' with rfl | rfl <;> simp) (equal_of fun d => by simp [Op.equalIn, hu2]) rfl rfl ho
  case h_2 el =>
    cases hu
    simp only [ren, Option.some.injEq] at h1 h2
    exact eq_finish hrel hop h1.symm h2.symm (by unfold eqGuard; rcases hop' with rfl | rfl <;> simp) (equal_of fun d => by simp [Op.equalIn, hu2]) rfl rfl ho
  case h_3 el l off =>
    cases hu
    simp only [ren, Option.some.injEq] at h1
    obtain ⟨y, _, h2⟩ := ren_ptr h2
    exact eq_finish hrel hop h1.symm h2 (by unfold eqGuard; rcases hop' with rfl | rfl <;> simp) (equal_of fun d => by simp [Op.equalIn, hu2]) rfl rfl ho
  case h_4 el l off =>
    cases hu
    simp only [ren, Option.some.injEq] at h2
    obtain ⟨y, _, h1⟩ := ren_ptr h1
    exact eq_finish hrel hop h1 h2.symm (by unfold eqGuard; rcases hop' with rfl | rfl <;> simp) (equal_of fun d => by simp [Op.equalIn, hu2]) rfl rfl ho
  case h_5 el =>
    cases hu
    simp only [ren, Option.some.injEq] at h1 h2
    exact eq_finish hrel hop h1.symm h2.symm (by unfold eqGuard; rcases hop' with rfl | rfl <;> simp) (equal_of fun d => by simp [Op.equalIn, hu2]) rfl rfl ho
  case h_6 el l off n c =>
    cases hu
    simp only [ren, Option.some.injEq] at h1
    obtain ⟨y, _, _, _, h2⟩ := ren_slice h2
    exact eq_finish hrel hop h1.symm h2 (by unfold eqGuard; rcases hop' with rfl | rfl <;> simp) (equal_of fun d => by simp [Op.equalIn, hu2]) rfl rfl ho
  case h_7 el l off n c =>
    cases hu
    simp only [ren, Option.some.injEq] at h2
    obtain ⟨y, _, _, _, h1⟩ := ren_slice h1
    exact eq_finish hrel hop h1 h2.symm (by unfold eqGuard; rcases hop' with rfl | rfl <;> simp) (equal_of fun d => by simp [Op.equalIn, hu2]) rfl rfl ho
  case h_8 =>
    cases hu
    simp only [ren, Option.some.injEq] at h1 h2
    exact eq_finish hrel hop h1.symm h2.symm (by unfold eqGuard; rcases hop' with rfl | rfl <;> simp) (equal_of fun d => by simp [Op.equalIn, hu2]) rfl rfl ho
  case h_9 =>
    cases hu
    simp only [ren, Option.some.injEq] at h1
    obtain ⟨y, _, h2⟩ := ren_map h2
    exact eq_finish hrel hop h1.symm h2 (by unfold eqGuard; rcases hop' with rfl | rfl <;> simp) (equal_of fun d => by simp [Op.equalIn, hu2]) rfl rfl ho
  case h_10 =>
    cases hu
    simp only [ren, Option.some.injEq] at h2
    obtain ⟨y, _, h1⟩ := ren_map h1
    exact eq_finish hrel hop h1 h2.symm (by unfold eqGuard; rcases hop' with rfl | rfl <;> simp) (equal_of fun d => by simp [Op.equalIn, hu2]) rfl rfl ho
  case h_11 =>
    cases hu
    simp only [ren, Option.some.injEq] at h1 h2
    exact eq_finish hrel hop h1.symm h2.symm (by unfold eqGuard; rcases hop' with rfl | rfl <;> simp) (equal_of fun d => by simp [Op.equalIn, hu2]) rfl rfl ho
  case h_12 =>
    cases hu
    simp only [ren, Option.some.injEq] at h1
    have h2' := h2
    simp only [ren] at h2'
    split at h2'
    · simp only [Option.some.injEq] at h2'
      exact eq_finish hrel hop h1.symm h2'.symm (by unfold eqGuard; rcases hop' with rfl | rfl <;> simp) (equal_of fun d => by simp [Op.equalIn, hu2]) rfl rfl ho
    · cases h2'
  case h_13 =>
    cases hu
    simp only [ren, Option.some.injEq] at h2
    have h1' := h1
    simp only [ren] at h1'
    split at h1'
    · simp only [Option.some.injEq] at h1'
      exact eq_finish hrel hop h1'.symm h2.symm (by unfold eqGuard; rcases hop' with rfl | rfl <;> simp) (equal_of fun d => by simp [Op.equalIn, hu2]) rfl rfl ho
    · cases h1'
  case h_14 p q =>
    split at hu
    · rename_i X Y hX hY
      have e1 := conc_ok hX ρ
      have e2 := conc_ok hY ρ
      rw [e1] at h1; rw [e2] at h2
      simp only [Option.some.injEq] at h1 h2
      obtain ⟨lx, _, rfl⟩ := ren_agg e1
      obtain ⟨ly, _, rfl⟩ := ren_agg e2
      have hrun := pureRun_run hu w
      have hrun2 := pureRun_run hu w
      simp only [Sem.run_bind] at hrun
      cases hg : (eqGuard .eql t (.tmp 0) (.tmp 0) (.agg lx.toArray) (.agg ly.toArray)).run P w with
      | halt x w' => rw [hg] at hrun; simp at hrun
      | ok x w' =>
        rw [hg] at hrun
        simp only [Result.andThen_ok] at hrun
        have hww : w' = w := by
          have : ∀ {α β : Type} {s : Sem α} {f : α → Sem β} {r : β}, pureRun P (s >>= f) = some r → ∃ q, pureRun P s = some q := by
            intro α β s
            induction s with
            | pure a => intro f r _; exact ⟨a, rfl⟩
            | program k ih => intro f r h; exact ih P h
            | mark m k ih => intro f r h; exact ih h
            | _ => intro f r h; simp [Bind.bind, Sem.bind, pureRun] at h
          obtain ⟨q, hq⟩ := this hu
          rw [pureRun_run hq w] at hg
          cases hg; rfl
        subst hww
        exact eq_finish hrel hop h1.symm h2.symm (by rw [eqGuard_agg t a b (.tmp 0) (.tmp 0) _ _ op hop']; exact hg) hrun rfl rfl ho
    · cases hu
  case h_15 => cases hu
end
end Am
