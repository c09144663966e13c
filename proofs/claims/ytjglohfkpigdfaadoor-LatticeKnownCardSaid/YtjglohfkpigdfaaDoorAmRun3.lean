/- The quick evaluator. -/
import Derived.Test.YtjglohfkpigdfaaDoorAmRun2
set_option linter.unusedSimpArgs false
set_option linter.unusedVariables false
set_option linter.unusedSectionVars false
set_option linter.unnecessarySimpa false
namespace Am
open Go Go.RowKit
noncomputable section
theorem sliceEv_known (H : AH) (sz : Nat) (l : Loc) (off len c : Nat) (lo hi mx : Option AV) {v : AV} {G : AH} (h : sliceEv [] sz (.slice l off len (.known c)) lo hi mx = some (v, G)) : sliceEv H sz (.slice l off len (.known c)) lo hi mx = some (v, H) := by
  simp only [sliceEv] at h ⊢
  cases h1 : boundEv c c mx with
  | none => simp only [h1] at h; cases h
  | some m =>
    simp only [h1] at h ⊢
    cases h2 : boundEv len m hi with
    | none => simp only [h2] at h; cases h
    | some t =>
      simp only [h2] at h ⊢
      cases h3 : boundEv 0 t lo with
      | none => simp only [h3] at h; cases h
      | some q =>
        simp only [h3, Option.some.injEq, Prod.mk.injEq] at h ⊢
        exact ⟨h.1, trivial⟩
theorem sliceEv_opn {H : AH} {i : Nat} {c : List AV} {t sz' : Nat} (hg : H[i]? = some (.row c t sz')) (sz off len eo : Nat) (lo hi mx : Option AV) {o m : Nat} {cp : Cap} {G : AH}
    (h : sliceEv [.row c t sz'] sz (.slice (.mu 0) off len (.opn eo)) lo hi mx = some (.slice (.mu 0) o m cp, G)) : sliceEv H sz (.slice (.mu i) off len (.opn eo)) lo hi mx = some (.slice (.mu i) o m cp, H) := by
  simp only [sliceEv, List.getElem?_cons_zero] at h
  simp only [sliceEv, hg]
  by_cases hc : sz' = sz ∧ off = eo * sz ∧ sz ≠ 0 ∧ off ≤ c.length
  · rw [if_pos hc] at h ⊢
    cases mx with
    | some mv =>
      dsimp only at h ⊢
      cases h1 : boundEv 0 ((c.length - off) / sz) (some mv) with
      | none => simp only [h1] at h; cases h
      | some m1 =>
        simp only [h1] at h ⊢
        cases h2 : boundEv len m1 hi with
        | none => simp only [h2] at h; cases h
        | some t1 =>
          simp only [h2] at h ⊢
          cases h3 : boundEv 0 t1 lo with
          | none => simp only [h3] at h; cases h
          | some q =>
            simp only [h3, Option.some.injEq, Prod.mk.injEq, AV.slice.injEq] at h ⊢
            exact ⟨⟨trivial, h.1.2⟩, trivial⟩
    | none =>
      dsimp only at h ⊢
      cases h2 : boundEv len ((c.length - off) / sz) hi with
      | none => simp only [h2] at h; cases h
      | some t1 =>
        simp only [h2] at h ⊢
        by_cases h4 : t1 ≤ (c.length - off) / sz
        · rw [if_pos h4] at h ⊢
          cases h3 : boundEv 0 t1 lo with
          | none => simp only [h3] at h; cases h
          | some q =>
            simp only [h3] at h ⊢
            by_cases h5 : q = 0
            · rw [if_pos h5] at h ⊢
              simp only [Option.some.injEq, Prod.mk.injEq, AV.slice.injEq] at h ⊢
              exact ⟨⟨trivial, h.1.2⟩, trivial⟩
            · rw [if_neg h5] at h ⊢
              by_cases h6 : q < t1
              · rw [if_pos h6] at h ⊢
                simp only [Option.some.injEq, Prod.mk.injEq, AV.slice.injEq] at h ⊢
                exact ⟨⟨trivial, h.1.2⟩, trivial⟩
              · rw [if_neg h6] at h
                simp at h
        · rw [if_neg h4] at h; cases h
  · rw [if_neg hc] at h; cases h
theorem sliceEv_opn2 {H : AH} {i : Nat} {c : List AV} {t sz' : Nat} (hg : H[i]? = some (.row c t sz')) (sz off len eo : Nat) (lo hi mx : Option AV) {o m : Nat} {cp : Cap} {G : AH}
    (h : sliceEv [.row c t sz'] sz (.slice (.mu 0) off len (.opn eo)) lo hi mx = some (.slice (.mu 1) o m cp, G)) : sliceEv H sz (.slice (.mu i) off len (.opn eo)) lo hi mx = some (.slice (.mu H.length) 0 0 (.opn 0), H ++ [.dead]) := by
  simp only [sliceEv, List.getElem?_cons_zero] at h
  simp only [sliceEv, hg]
  by_cases hc : sz' = sz ∧ off = eo * sz ∧ sz ≠ 0 ∧ off ≤ c.length
  · rw [if_pos hc] at h ⊢
    cases mx with
    | some mv =>
      dsimp only at h ⊢
      cases h1 : boundEv 0 ((c.length - off) / sz) (some mv) with
      | none => simp only [h1] at h; cases h
      | some m1 =>
        simp only [h1] at h ⊢
        cases h2 : boundEv len m1 hi with
        | none => simp only [h2] at h; cases h
        | some t1 =>
          simp only [h2] at h ⊢
          cases h3 : boundEv 0 t1 lo with
          | none => simp only [h3] at h; cases h
          | some q => simp only [h3] at h; simp at h
    | none =>
      dsimp only at h ⊢
      cases h2 : boundEv len ((c.length - off) / sz) hi with
      | none => simp only [h2] at h; cases h
      | some t1 =>
        simp only [h2] at h ⊢
        by_cases h4 : t1 ≤ (c.length - off) / sz
        · rw [if_pos h4] at h ⊢
          cases h3 : boundEv 0 t1 lo with
          | none => simp only [h3] at h; cases h
          | some q =>
            simp only [h3] at h ⊢
            by_cases h5 : q = 0
            · rw [if_pos h5] at h; simp at h
            · rw [if_neg h5] at h ⊢
              by_cases h6 : q < t1
              · rw [if_pos h6] at h; simp at h
              · rw [if_neg h6]
        · rw [if_neg h4] at h; cases h
  · rw [if_neg hc] at h; cases h
section
variable {P : Program} {R : Ro} {e : ET} {h : HT} {n : Nat} {k : AV → HT → Nat → Bool}
theorem map_xF (e : ET) (o : Option X) : o.map (X.ev (envT e)) = o.map (xF e) := by cases o <;> simp [xF_eq]
theorem sliceF_ok {sz : Nat} {x : X} {lo hi mx : Option X} (hk : sliceF P R e h n k sz x lo hi mx = true) {H : AH} (s : Sim h n H) : Res P R e k H (.slice sz x lo hi mx) := by
  rcases isSlice_ok hk with ⟨l, off, len, cap, hx, hk⟩ | ⟨hx, hk⟩
  · cases cap with
    | known c =>
      have hk : (match sliceEv [] sz (xF e x) (lo.map (xF e)) (hi.map (xF e)) (mx.map (xF e)) with | some (v, _) => fAV v fun v => k v h n | none => false) = true := hk
      split at hk
      · rename_i v G hv
        rw [fAV_eq] at hk
        rw [hx] at hv
        refine ⟨v, H, h, n, ?_, s, hk⟩
        simp only [AOp.eval, xF_eq, map_xF, hx]
        exact sliceEv_known H _ _ _ _ _ _ _ _ hv
      · cases hk
    | opn eo =>
      rcases isMu_ok (show isMu l _ _ = true from hk) with ⟨i, hl0, hk1⟩ | ⟨b, hl0, hk1⟩
      · subst hl0
        have hk := hk1
        cases ho : gH h i with
        | row c t sz' =>
          rw [ho] at hk
          obtain ⟨hi', hg⟩ := s.at ho rfl
          have hk : (match sliceEv [.row c t sz'] sz (.slice (.mu 0) off len (.opn eo)) (lo.map (xF e)) (hi.map (xF e)) (mx.map (xF e)) with
            | some (.slice (.mu 0) o m cp, _) => fN o fun o => fN m fun m => fCap cp fun cp => k (.slice (.mu i) o m cp) h n
            | some (.slice (.mu 1) _ _ _, _) => pushF h n .dead fun h' n' => k (.slice (.mu n) 0 0 (.opn 0)) h' n'
            | some _ => slowE P R e h n k (.slice sz x lo hi mx)
            | none => false) = true := hk
          split at hk
          · rename_i o m cp G hv
            rw [fN_eq, fN_eq, fCap_eq] at hk
            refine ⟨_, H, h, n, ?_, s, hk⟩
            simp only [AOp.eval, xF_eq, map_xF, hx]
            exact sliceEv_opn hg _ _ _ _ _ _ _ hv
          · rename_i o m cp G hv
            rw [pushF_eq] at hk
            refine ⟨_, _, _, _, ?_, s.push _, hk⟩
            simp only [AOp.eval, xF_eq, map_xF, hx]
            rw [sliceEv_opn2 hg _ _ _ _ _ _ _ hv, s.len]
          · exact slowE_ok hk s
          · cases hk
        | _ => rw [ho] at hk; cases hk
      · subst hl0
        have hk := hk1
        cases hk
  · exact slowE_ok hk s
theorem siterK_ok {o : AO} {q : List UInt8 → Nat → Bool} (hk : siterK o q = true) : ∃ s p, o = .siter s p ∧ q s p = true := by
  cases o <;> first | exact ⟨_, _, rfl, hk⟩ | cases hk
theorem nextF_ok {x : X} (hk : nextF e h n k x = true) {H : AH} (s : Sim h n H) : Res P R e k H (.nextS x) := by
  obtain ⟨l, o, hx, hk⟩ := isPtr_ok hk
  rcases isMu_ok hk with ⟨i, hl0, hk1⟩ | ⟨b, hl0, hk1⟩
  · cases o with
    | zero =>
      obtain ⟨t, p, ho, hk⟩ := siterK_ok hk1
      obtain ⟨hi, hg⟩ := s.at ho rfl
      rw [lenT_eq] at hk
      cases hb : Nat.ble (Nat.succ p) t.length with
      | false =>
        rw [hb] at hk
        have hb : ¬ p < t.length := by intro h'; rw [Nat.ble_eq_true_of_le (show Nat.succ p ≤ t.length from h')] at hb; cases hb
        refine ⟨_, H, h, n, ?_, s, hk⟩
        subst hl0
        simp [AOp.eval, xF_eq, hx, hg, hb]
      | true =>
        rw [hb] at hk
        have hb : p < t.length := Nat.le_of_ble_eq_true hb
        have hk : fI (Utf8.decode ⟨⟨t⟩⟩ p).1 (fun r => fN (p + (Utf8.decode ⟨⟨t⟩⟩ p).2) fun q => putF h i (.siter t q) fun h => k (.tuple [.bool true, .int .i64 (.ofNat p), .int .i32 r]) h n) = true := hk
        rw [fI_eq, fN_eq, putF_eq] at hk
        refine ⟨_, _, _, n, ?_, s.put hi _, hk⟩
        subst hl0
        simp [AOp.eval, xF_eq, hx, hg, hb]
    | succ o => cases hk1
  · cases hk1
theorem bsliceF_ok {t sz ln : Nat} {z : List AV} {ps : List (Nat × X)} (hk : bsliceF e h n k t sz ln z ps = true) {H : AH} (s : Sim h n H) : Res P R e k H (.bslice t sz ln z ps) := by
  unfold bsliceF at hk
  split at hk
  · rename_i c hc
    obtain ⟨h1, hk⟩ := chk_ok hk
    have h1 := Nat.eq_of_beq_eq_true h1
    rw [lenK_eq] at h1
    rw [fAVL_eq] at hk
    obtain ⟨h2, hk⟩ := chk_ok hk
    rw [ones_eq] at h2
    rw [pushF_eq] at hk
    refine ⟨_, _, _, _, ?_, s.push _, hk⟩
    simp only [AOp.eval, xF_eq, hc]
    rw [if_pos ⟨h1, h2⟩, s.len]
  · cases hk
theorem makeF_ok {t sz by' : Nat} {z : List AV} {l c : X} (hk : makeF e h n k t sz by' z l c = true) {H : AH} (s : Sim h n H) : Res P R e k H (.mksl t sz by' z l c) := by
  obtain ⟨q, lv, hl, hk⟩ := isInt_ok hk
  obtain ⟨q', cv, hc, hk⟩ := isInt_ok hk
  obtain ⟨h1, h2, hk⟩ := idxK_ok hk
  obtain ⟨h3, hk⟩ := chk_ok hk
  have h3 := of_decide_eq_true h3
  obtain ⟨h4, hk⟩ := chk_ok hk
  have h4 := Nat.eq_of_beq_eq_true h4
  rw [lenK_eq] at h4
  obtain ⟨h5, hk⟩ := chk_ok hk
  rw [ones_eq] at h5
  rw [fN_eq, fAVL_eq, pushF_eq] at hk
  refine ⟨_, _, _, _, ?_, s.push _, hk⟩
  simp only [AOp.eval, xF_eq, hl, hc]
  rw [if_pos ⟨h1, by omega, h3.2.1, h3.2.2, h4, h5⟩, s.len]
theorem opF_ok {op : AOp} (hk : opF P R e h n k op = true) {H : AH} (s : Sim h n H) : Res P R e k H op := by
  unfold opF at hk
  split at hk
  · rw [hd_eq] at hk
    exact ⟨_, H, h, n, by simp [AOp.eval, xF_eq], s, hk⟩
  · obtain ⟨b, hb, hk⟩ := isBool_ok hk
    cases b with
    | false => rw [hd_eq] at hk; exact ⟨_, H, h, n, by simp [AOp.eval, xF_eq, hb], s, hk⟩
    | true =>
      have hk : hd (xF e _) (fun v => k v h n) = true := hk
      rw [hd_eq] at hk; exact ⟨_, H, h, n, by simp [AOp.eval, xF_eq, hb], s, hk⟩
  · exact loadF_ok hk s
  · exact storeF_ok hk s
  · exact binF_ok hk s
  · rcases isAgg_ok hk with ⟨cs, _, hk⟩ | ⟨vs, hx, hk⟩
    · cases hk
    · obtain ⟨v, hv, hk⟩ := nthK_ok hk
      exact ⟨v, H, h, n, by simp [AOp.eval, xF_eq, hx, hv], s, hk⟩
  · rename_i off m x
    rcases isAgg_ok hk with ⟨cs, hx, hk⟩ | ⟨vs, _, hk⟩
    · cases m with
      | none =>
        obtain ⟨v, hv, hk⟩ := nthK_ok hk
        exact ⟨v, H, h, n, by simp [AOp.eval, xF_eq, hx, hv], s, hk⟩
      | some m =>
        obtain ⟨_, hk⟩ := dropK_ok hk
        obtain ⟨_, hk⟩ := takeK_ok hk
        exact ⟨_, H, h, n, by simp [AOp.eval, xF_eq, hx], s, hk⟩
    · cases hk
  · obtain ⟨l, o, hx, hk⟩ := isPtr_ok hk
    rw [fN_eq] at hk
    exact ⟨_, H, h, n, by simp [AOp.eval, xF_eq, hx], s, hk⟩
  · rcases isSlice_ok hk with ⟨l, o, ln, c, hx, hk⟩ | ⟨_, hk⟩
    · obtain ⟨q, j, hj, hk⟩ := isInt_ok hk
      obtain ⟨h1, h2, hk⟩ := idxK_ok hk
      rw [fN_eq] at hk
      exact ⟨_, H, h, n, by simp [AOp.eval, xF_eq, hx, hj, h1, h2], s, hk⟩
    · cases hk
  · obtain ⟨l, o, hx, hk⟩ := isPtr_ok hk
    obtain ⟨q, j, hj, hk⟩ := isInt_ok hk
    obtain ⟨h1, h2, hk⟩ := idxK_ok hk
    rw [fN_eq] at hk
    exact ⟨_, H, h, n, by simp [AOp.eval, xF_eq, hx, hj, h1, h2], s, hk⟩
  · rcases isSlice_ok hk with ⟨l, o, ln, c, hx, hk⟩ | ⟨hx, hk⟩
    · exact ⟨_, H, h, n, by simp [AOp.eval, xF_eq, hx], s, hk⟩
    · exact ⟨_, H, h, n, by simp [AOp.eval, xF_eq, hx], s, hk⟩
  · obtain ⟨h1, hk⟩ := chk_ok hk
    rw [ones_eq] at h1
    rw [pushF_eq] at hk
    refine ⟨_, _, _, _, ?_, s.push _, hk⟩
    simp only [AOp.eval]
    rw [if_pos h1, s.len]
  · rw [cellsK_eq] at hk
    obtain ⟨h1, hk⟩ := chk_ok hk
    rw [ones_eq] at h1
    rw [pushF_eq] at hk
    refine ⟨_, _, _, _, ?_, s.push _, hk⟩
    simp only [AOp.eval, xF_eq]
    rw [if_pos h1, s.len]
  · obtain ⟨q, z, hx, hk⟩ := isInt_ok hk
    rw [wrF_eq] at hk
    exact ⟨_, H, h, n, by simp [AOp.eval, xF_eq, hx], s, hk⟩
  · exact appendF_ok hk s
  · exact sliceF_ok hk s
  · obtain ⟨t, hx, hk⟩ := isStr_ok hk
    rw [lenT_eq] at hk
    exact ⟨_, H, h, n, by simp [AOp.eval, xF_eq, hx], s, hk⟩
  · obtain ⟨t, hx, hk⟩ := isStr_ok hk
    rw [pushF_eq] at hk
    exact ⟨_, _, _, _, by simp [AOp.eval, xF_eq, hx, s.len], s.push _, hk⟩
  · exact nextF_ok hk s
  · exact bsliceF_ok hk s
  · exact makeF_ok hk s
  · rw [pushF_eq] at hk
    exact ⟨_, _, _, _, by simp [AOp.eval, s.len], s.push _, hk⟩
  · cases hk
  · cases hk
  · cases hk
  · split at hk
    · rename_i hq; exact slowQ_ok hq hk s
    · exact slowE_ok hk s
end

/-! ### The machine -/
structure M where
  call : FuncId → List AV → HT → Nat → (AV → HT → Nat → Bool) → Bool
  code : AC → ET → HT → Nat → (Exit → ET → HT → Nat → Bool) → Bool
def M.bad : M := ⟨fun _ _ _ _ _ => false, fun _ _ _ _ _ => false⟩
/-- A contract in the evaluator's words. -/
abbrev Ctr := M → List AV → HT → Nat → (AV → HT → Nat → Bool) → Bool
def PostC (k : AV → HT → Nat → Bool) : AV → AH → Prop := fun v H => ∃ h n, Sim h n H ∧ k v h n = true
def GoodCall (P : Program) (R : Ro) (m : M) : Prop := ∀ f args h n k H, Sim h n H → m.call f args h n k = true → ACalls P R f args H (PostC k)
def PostT (k : Exit → ET → HT → Nat → Bool) : Exit → Env → AH → Prop := fun ex e H => ∃ e' h n, e = envT e' ∧ Sim h n H ∧ k ex e' h n = true
def GoodBody (P : Program) (R : Ro) (m : M) : Prop := ∀ ac nt e h n k H, Sim h n H → m.code ac e h n k = true → AWp P R nt ac (PostT k) (envT e) H
def CtrOk (P : Program) (R : Ro) (f : FuncId) (g : Ctr) : Prop := ∀ m, GoodCall P R m → GoodBody P R m → ∀ args h n k H, Sim h n H → g m args h n k = true → ACalls P R f args H (PostC k)
structure HeldT where
  o : AOper
  e : ET
  v : AV
section
variable (P : Program) (R : Ro) (tab : FuncId → Option AFn) (ctr : FuncId → Option Ctr) (m : M)
def putE (d : Option Nat) (v : AV) (e : ET) (q : ET → Bool) : Bool := Option.casesOn (motive := fun _ => Bool) d (q e) fun t => BT.setK AV.undef e t v q
def guardF (o : AOper) (e : ET) (a b : Bool) : Bool := Option.casesOn (motive := fun _ => Bool) o.guard a fun p => isBool (gE e p.1) (fun c => Bool.casesOn (motive := fun _ => Bool) c (Bool.casesOn (motive := fun _ => Bool) p.2 a b) (Bool.casesOn (motive := fun _ => Bool) p.2 b a)) (isAgg (gE e p.1) (fun _ => false) (fun vs => List.casesOn (motive := fun _ => Bool) vs b fun _ _ => false) false)
def argsK (e : ET) (xs : List X) : (List AV → Bool) → Bool := List.rec (motive := fun _ => (List AV → Bool) → Bool) (fun q => q []) (fun x _ ih q => hd (xF e x) fun v => ih fun vs => q (v :: vs)) xs
def stepF (o : AOper) (e : ET) (h : HT) (n : Nat) (q : ET → HT → Nat → Bool) : Bool := match o.op with
  | .call f xs => argsK e xs fun as => m.call f as h n fun v h n => putE o.dst v e fun e => q e h n
  | .callv x xs => match xF e x with
    | .fn (.func f) first captured => chk (bodied P f) (argsK e xs fun as => appK as captured fun as => appK first as fun as => m.call f as h n fun v h n => putE o.dst v e fun e => q e h n)
    | _ => false
  | op => opF P R e h n (fun v h n => putE o.dst v e fun e => q e h n) op
def opsF (l : List AOper) : ET → HT → Nat → (ET → HT → Nat → Bool) → Bool := List.rec (motive := fun _ => ET → HT → Nat → (ET → HT → Nat → Bool) → Bool) (fun e h n q => q e h n)
  (fun o _ ih e h n q => guardF o e (stepF P R m o e h n fun e h n => ih e h n q) (putE o.dst AV.undef e fun e => ih e h n q)) l
def heldF (x : HeldT) (h : HT) (n : Nat) : Bool := x.o.op.quiet && opF P R x.e h n (fun v _ _ => beqAV v x.v) x.o.op
def drawF (ds : List DOper) (B : List Nat) (q : ET → HT → Nat → Bool) (fuel : Nat) : List (Nat × HeldT) → List Nat → ET → HT → Nat → Bool :=
  Nat.rec (motive := fun _ => List (Nat × HeldT) → List Nat → ET → HT → Nat → Bool) (fun _ done e h n => (readyA ds done).isEmpty && q e h n)
    (fun _ ih T done e h n => match firstQ ds done (envT e) with
      | some i => match ds[i]? with
        | some d => match wantedA d.o (envT e) with
          | some false => putE d.o.dst AV.undef e fun e => ih T (i :: done) e h n
          | some true => opF P R e h n (fun v _ _ => putE d.o.dst v e fun e' => ih ((i, ⟨d.o, e, v⟩) :: T) (i :: done) e' h n) d.o.op
          | none => false
        | none => false
      | none => (!(readyA ds done).isEmpty || q e h n) && (readyA ds done).all fun i => match ds[i]? with
        | some d => (wantedA d.o (envT e) == some true) && stepF P R m d.o e h n fun e' h' n' => (keepT (effA ds) B T i).all (fun x => heldF P R x.2 h' n') && ih (keepT (effA ds) B T i) (i :: done) e' h' n'
        | none => false) fuel
def preLt (pre : List Nat) (i : Nat) : Bool := List.rec (motive := fun _ => Bool) true (fun p _ ih => chk (Nat.ble (Nat.succ p) i) ih) pre
def seqOk (ds : List DOper) : Nat → Bool := List.rec (motive := fun _ => Nat → Bool) (fun _ => true) (fun d _ ih i => chk d.o.op.quiet (chk (preLt d.pre i) (ih (Nat.succ i)))) ds
def exK (ex : Exit) (a : Bool) (b : Exit → Bool) : Bool := match ex with
  | .normal => a
  | ex => b ex
def codeF (ac : AC) : ET → HT → Nat → (Exit → ET → HT → Nat → Bool) → Bool := AC.rec (motive := fun _ => ET → HT → Nat → (Exit → ET → HT → Nat → Bool) → Bool)
  (fun e h n k => k .normal e h n)
  (fun l e h n k => opsF P R m l e h n fun e h n => k .normal e h n)
  (fun ds B e h n k => Bool.casesOn (motive := fun _ => Bool) (seqOk ds 0) (drawF P R m ds B (fun e h n => k .normal e h n) ds.length [] [] e h n) (opsF P R m (ds.map DOper.o) e h n fun e h n => k .normal e h n))
  (fun _ _ iha ihb e h n k => iha e h n fun ex e h n => exK ex (ihb e h n k) fun ex => k ex e h n)
  (fun c _ _ iha ihb e h n k => isBool (xF e c) (fun t => Bool.casesOn (motive := fun _ => Bool) t (ihb e h n k) (iha e h n k)) false)
  (fun id _ iha e h n k => iha e h n fun ex e h n => match ex with
    | .exit id' => Bool.casesOn (motive := fun _ => Bool) (Nat.beq id' id) (k (.exit id') e h n) (k .normal e h n)
    | ex => k ex e h n)
  (fun a iha e h n k => iha e h n fun ex e h n => exK ex (m.code (.loop a) e h n k) fun ex => k ex e h n)
  (fun id e h n k => k (.exit id) e h n)
  (fun e h n k => k .ret e h n)
  (fun _ _ _ _ => false) ac
def argsE (as : List AV) : Nat → ET → (ET → Bool) → Bool := List.rec (motive := fun _ => Nat → ET → (ET → Bool) → Bool) (fun _ e q => q e) (fun v _ ih i e q => BT.setK AV.undef e i v fun e => fN (Nat.succ i) fun i => ih i e q) as
def res1K (e : ET) (h : HT) (r : RX) (q : AV → Bool) : Bool := match r with
  | .tmp t => hd (gE e t) q
  | .cell t z => isPtr (gE e t) (fun l o => isMu l (fun i => withK (gH h i) fun c _ => Option.casesOn (motive := fun _ => Bool) z (nthK c o q) fun z => dropK c o fun d => takeK d z fun d => q (.agg d)) (fun _ => false)) false
def resK (e : ET) (h : HT) (rs : List RX) : (List AV → Bool) → Bool := List.rec (motive := fun _ => (List AV → Bool) → Bool) (fun q => q []) (fun r _ ih q => res1K e h r fun v => ih fun vs => q (v :: vs)) rs
def resVK (vs : List AV) (q : AV → Bool) : Bool := List.casesOn (motive := fun _ => Bool) vs (q (.tuple [])) fun v r => List.casesOn (motive := fun _ => Bool) r (q v) fun _ _ => q (.tuple vs)
def callF (f : FuncId) (args : List AV) (h : HT) (n : Nat) (k : AV → HT → Nat → Bool) : Bool := match tab f with
  | some af => chk (Nat.ble (lenK args) af.nt) (argsE args 0 .nil fun e => m.code af.body e h n fun ex e h n => match ex with
    | .normal | .ret => resK e h af.res fun vs => resVK vs fun v => k v h n
    | _ => false)
  | none => match ctr f with
    | some g => g m args h n k
    | none => false
def runM (j : Nat) : M := Nat.rec (motive := fun _ => M) M.bad (fun _ m => ⟨callF tab ctr m, codeF P R m⟩) j
end
section
variable {P : Program} {R : Ro} {tab : FuncId → Option AFn} {ctr : FuncId → Option Ctr} {m : M}
def PostE (q : ET → HT → Nat → Bool) : Env → AH → Prop := fun e H => ∃ e' h n, e = envT e' ∧ Sim h n H ∧ q e' h n = true
theorem putE_ok {d : Option Nat} {v : AV} {e : ET} {q : ET → Bool} (h : putE d v e q = true) : ∃ e', (envT e).put d v = envT e' ∧ q e' = true := by
  cases d with
  | none => exact ⟨e, rfl, h⟩
  | some t =>
    have h : BT.setK AV.undef e t v q = true := h
    rw [BT.setK_eq] at h
    exact ⟨_, envT_put e t v, h⟩
theorem guardF_ok {o : AOper} {e : ET} {a b : Bool} (h : guardF o e a b = true) : (wantedA o (envT e) = some true ∧ a = true) ∨ (wantedA o (envT e) = some false ∧ b = true) := by
  unfold guardF at h
  unfold wantedA
  cases hg : o.guard with
  | none => rw [hg] at h; exact .inl ⟨rfl, h⟩
  | some p =>
    obtain ⟨t, w⟩ := p
    rw [hg] at h
    have h : isBool (gE e t) (fun c => Bool.casesOn (motive := fun _ => Bool) c (Bool.casesOn (motive := fun _ => Bool) w a b) (Bool.casesOn (motive := fun _ => Bool) w b a)) (isAgg (gE e t) (fun _ => false) (fun vs => List.casesOn (motive := fun _ => Bool) vs b fun _ _ => false) false) = true := h
    have he : envT e t = gE e t := rfl
    simp only [he]
    cases hv : gE e t with
    | bool c =>
      rw [hv] at h
      have h : Bool.casesOn (motive := fun _ => Bool) c (Bool.casesOn (motive := fun _ => Bool) w a b) (Bool.casesOn (motive := fun _ => Bool) w b a) = true := h
      cases c <;> cases w
      · exact .inl ⟨rfl, h⟩
      · exact .inr ⟨rfl, h⟩
      · exact .inr ⟨rfl, h⟩
      · exact .inl ⟨rfl, h⟩
    | tuple vs =>
      rw [hv] at h
      cases vs with
      | nil => exact .inr ⟨rfl, h⟩
      | cons x xs => cases h
    | _ => rw [hv] at h; cases h
theorem argsK_eq (e : ET) : ∀ (xs : List X) (q : List AV → Bool), argsK e xs q = q (xs.map (X.ev (envT e)))
  | [], q => rfl
  | x :: xs, q => by
    show hd (xF e x) (fun v => argsK e xs fun vs => q (v :: vs)) = _
    rw [hd_eq, argsK_eq e xs, List.map_cons, xF_eq]
theorem stepF_ok (hm : GoodCall P R m) {o : AOper} {e : ET} {h : HT} {n : Nat} {q : ET → HT → Nat → Bool} (hk : stepF P R m o e h n q = true) {H : AH} (s : Sim h n H) : stepOp P R o (PostE q) (envT e) H := by
  unfold stepF at hk
  unfold stepOp
  split at hk
  · rename_i f xs hop
    rw [hop]
    rw [argsK_eq] at hk
    refine (hm _ _ _ _ _ _ s hk).mono ?_
    rintro v H' ⟨h', n', s', hk'⟩
    obtain ⟨e', he, hq⟩ := putE_ok hk'
    exact ⟨e', h', n', he, s', hq⟩
  · rename_i x xs hop
    rw [hop]
    split at hk
    · rename_i f first captured hx
      obtain ⟨hb, hk⟩ := chk_ok hk
      rw [argsK_eq, appK_eq, appK_eq] at hk
      have e1 : fnArgs (x.ev (envT e)) (xs.map (X.ev (envT e))) = some (f, first ++ xs.map (X.ev (envT e)) ++ captured) := by rw [xF_eq, hx]; rfl
      dsimp only
      rw [e1]
      rw [← List.append_assoc] at hk
      refine ⟨hb, (hm _ _ _ _ _ _ s hk).mono ?_⟩
      rintro v H' ⟨h', n', s', hk'⟩
      obtain ⟨e', he, hq⟩ := putE_ok hk'
      exact ⟨e', h', n', he, s', hq⟩
    · cases hk
  · obtain ⟨v, H', h', n', hev, s', hk'⟩ := opF_ok hk s
    obtain ⟨e', he, hq⟩ := putE_ok hk'
    split
    · simp_all [AOp.eval]
    · simp_all [AOp.eval]
    · rw [hev]
      exact ⟨e', h', n', he, s', hq⟩
theorem opsF_ok (hm : GoodCall P R m) : ∀ {l : List AOper} {e : ET} {h : HT} {n : Nat} {q : ET → HT → Nat → Bool}, opsF P R m l e h n q = true → ∀ {H : AH}, Sim h n H → runOps P R l (PostE q) (envT e) H
  | [], e, h, n, q, hk, H, s => ⟨e, h, n, rfl, s, hk⟩
  | o :: os, e, h, n, q, hk, H, s => by
    rcases guardF_ok (show guardF o e (stepF P R m o e h n fun e h n => opsF P R m os e h n q) (putE o.dst AV.undef e fun e => opsF P R m os e h n q) = true from hk) with ⟨hw, hk⟩ | ⟨hw, hk⟩
    · simp only [runOps, hw]
      refine stepOp_mono ?_ (stepF_ok hm hk s)
      rintro e H ⟨e', h', n', rfl, s', hq⟩
      exact opsF_ok hm hq s'
    · simp only [runOps, hw]
      obtain ⟨e', he, hq⟩ := putE_ok hk
      rw [he]
      exact opsF_ok hm hq s
def heldOf (x : Nat × HeldT) : Nat × Held := (x.1, ⟨x.2.o, envT x.2.e, x.2.v⟩)
theorem keepT_map (eff : Nat → Bool) (B : List Nat) (T : List (Nat × HeldT)) (i : Nat) : keepT eff B (T.map heldOf) i = (keepT eff B T i).map heldOf := by
  unfold keepT
  split
  · rw [List.filter_map]; rfl
  · rfl
theorem heldF_ok {x : HeldT} {h : HT} {n : Nat} {H : AH} (s : Sim h n H) (hk : heldF P R x h n = true) : recheck P R ⟨x.o, envT x.e, x.v⟩ H := by
  unfold heldF at hk
  simp only [Bool.and_eq_true] at hk
  obtain ⟨v, H', h', n', hev, _, hv⟩ := opF_ok hk.2 s
  have := quiet_same hk.1 hev
  subst this
  unfold recheck
  rw [hev, beqAV_eq hv]
theorem drawF_ok (hm : GoodCall P R m) {ds : List DOper} {B : List Nat} {q : ET → HT → Nat → Bool} : ∀ (fuel : Nat) (T : List (Nat × HeldT)) (done : List Nat) {e : ET} {h : HT} {n : Nat}, drawF P R m ds B q fuel T done e h n = true → ∀ {H : AH}, Sim h n H →
    execD P R ds B (PostE q) fuel (T.map heldOf) done (envT e) H
  | 0, T, done, e, h, n, hk, H, s => by
    have hk : ((readyA ds done).isEmpty && q e h n) = true := hk
    simp only [Bool.and_eq_true] at hk
    exact ⟨by simpa using hk.1, e, h, n, rfl, s, hk.2⟩
  | fuel + 1, T, done, e, h, n, hk, H, s => by
    have hk : (match firstQ ds done (envT e) with
      | some i => match ds[i]? with
        | some d => match wantedA d.o (envT e) with
          | some false => putE d.o.dst AV.undef e fun e => drawF P R m ds B q fuel T (i :: done) e h n
          | some true => opF P R e h n (fun v _ _ => putE d.o.dst v e fun e' => drawF P R m ds B q fuel ((i, ⟨d.o, e, v⟩) :: T) (i :: done) e' h n) d.o.op
          | none => false
        | none => false
      | none => (!(readyA ds done).isEmpty || q e h n) && (readyA ds done).all fun i => match ds[i]? with
        | some d => (wantedA d.o (envT e) == some true) && stepF P R m d.o e h n fun e' h' n' => (keepT (effA ds) B T i).all (fun x => heldF P R x.2 h' n') && drawF P R m ds B q fuel (keepT (effA ds) B T i) (i :: done) e' h' n'
        | none => false) = true := hk
    simp only [execD]
    split at hk
    · rename_i i hfi
      rw [hfi]
      dsimp only
      split at hk
      · rename_i d hdi
        rw [hdi]
        dsimp only
        split at hk
        · rename_i hw
          rw [hw]
          dsimp only
          obtain ⟨e', he, hq⟩ := putE_ok hk
          rw [he]
          exact drawF_ok hm fuel _ _ hq s
        · rename_i hw
          rw [hw]
          dsimp only
          obtain ⟨v, H', h', n', hev, _, hk'⟩ := opF_ok hk s
          rw [hev]
          dsimp only
          obtain ⟨e', he, hq⟩ := putE_ok hk'
          rw [he]
          exact drawF_ok hm fuel ((i, ⟨d.o, e, v⟩) :: T) _ hq s
        · cases hk
      · cases hk
    · rename_i hfi
      rw [hfi]
      dsimp only
      simp only [Bool.and_eq_true, Bool.or_eq_true, List.all_eq_true] at hk
      refine ⟨fun h0 => ?_, fun i hi => ?_⟩
      · rcases hk.1 with h1 | h1
        · rw [h0] at h1; simp at h1
        · exact ⟨e, h, n, rfl, s, h1⟩
      · have h2 := hk.2 i hi
        split at h2
        · rename_i d hdi
          simp only [Bool.and_eq_true] at h2
          rw [hdi]
          dsimp only
          refine ⟨by simpa using h2.1, stepOp_mono ?_ (stepF_ok hm h2.2 s)⟩
          rintro e1 H1 ⟨e', h', n', rfl, s', hq⟩
          simp only [Bool.and_eq_true, List.all_eq_true] at hq
          rw [keepT_map]
          refine ⟨fun x hx => ?_, drawF_ok hm fuel _ _ hq.2 s'⟩
          obtain ⟨y, hy, rfl⟩ := List.mem_map.1 hx
          exact heldF_ok s' (hq.1 y hy)
        · cases h2
theorem preLt_ok : ∀ {pre : List Nat} {i : Nat}, preLt pre i = true → ∀ p ∈ pre, p < i
  | [], i, h, p, hp => by cases hp
  | q :: pre, i, h, p, hp => by
    obtain ⟨h1, h2⟩ := chk_ok (show chk (Nat.ble (Nat.succ q) i) (preLt pre i) = true from h)
    rcases List.mem_cons.1 hp with rfl | hp
    · exact Nat.le_of_ble_eq_true h1
    · exact preLt_ok h2 p hp
theorem seqOk_ok : ∀ {ds : List DOper} {i : Nat}, seqOk ds i = true → ∀ (j : Nat) d, ds[j]? = some d → d.o.op.quiet = true ∧ ∀ p ∈ d.pre, p < i + j
  | [], i, h, j, d, hd => by simp at hd
  | c :: ds, i, h, j, d, hd => by
    obtain ⟨h1, h⟩ := chk_ok (show chk c.o.op.quiet (chk (preLt c.pre i) (seqOk ds (Nat.succ i))) = true from h)
    obtain ⟨h2, h⟩ := chk_ok h
    cases j with
    | zero =>
      simp at hd
      subst hd
      exact ⟨h1, preLt_ok h2⟩
    | succ j =>
      simp at hd
      obtain ⟨a, b⟩ := seqOk_ok h j d hd
      exact ⟨a, fun p hp => by have := b p hp; omega⟩
theorem exec_seq {ds : List DOper} {B : List Nat} {K : Env → AH → Prop} (hq : ∀ (j : Nat) d, ds[j]? = some d → d.o.op.quiet = true ∧ ∀ p ∈ d.pre, p < j) : ∀ (m i : Nat) (T : List (Nat × Held)) (done : List Nat) (e : Env) (H : AH), i + m = ds.length → (∀ j, done.contains j = decide (j < i)) →
    runOps P R ((ds.drop i).map DOper.o) K e H → execD P R ds B K m T done e H := by
  intro m
  induction m with
  | zero =>
    intro i T done e H hi hd hr
    rw [List.drop_of_length_le (by omega)] at hr
    refine ⟨?_, hr⟩
    unfold readyA
    rw [List.filter_eq_nil_iff]
    intro j hj
    simp at hj
    rw [hd j]
    simp; omega
  | succ m ih =>
    intro i T done e H hi hd hr
    have hlt : i < ds.length := by omega
    have hdi : ds[i]? = some ds[i] := List.getElem?_eq_getElem hlt
    obtain ⟨hqi, hpi⟩ := hq i _ hdi
    rw [List.drop_eq_getElem_cons hlt, List.map_cons] at hr
    have hd' : ∀ j, (i :: done).contains j = decide (j < i + 1) := by
      intro j
      rw [List.contains_cons, hd j]
      by_cases h1 : j = i
      · subst h1; simp
      · have : (j == i) = false := by simp [h1]
        rw [this, Bool.false_or]
        congr 1
        apply propext; omega
    have hw : wantedA ds[i].o e = some true ∨ wantedA ds[i].o e = some false := by
      simp only [runOps] at hr
      split at hr
      · exact .inl ‹_›
      · exact .inr ‹_›
      · exact hr.elim
    have hfirst : firstQ ds done e = some i := by
      unfold firstQ readyA
      rw [List.find?_filter]
      rw [List.find?_range_eq_some]
      refine ⟨?_, by simpa using hlt, fun j hj => ?_⟩
      · rw [hd i, hdi]
        have h1 : (ds[i].pre.all done.contains) = true := by
          rw [List.all_eq_true]
          intro p hp
          rw [hd p]; simpa using hpi p hp
        rcases hw with hw | hw
        · simp [hw, hqi, h1]
        · simp [hw, h1]
      · rw [hd j]; simp [hj]
    simp only [execD, hfirst, hdi]
    rcases hw with hw | hw
    · rw [hw]
      simp only [runOps, hw] at hr
      unfold stepOp at hr
      split at hr
      · rename_i h0; rw [h0] at hqi; cases hqi
      · rename_i h0; rw [h0] at hqi; cases hqi
      · split at hr
        · rename_i v H' hev
          have := quiet_same hqi hev
          subst this
          dsimp only
          rw [hev]
          exact ih (i + 1) _ _ _ _ (by omega) hd' hr
        · exact hr.elim
    · rw [hw]
      simp only [runOps, hw] at hr
      exact ih (i + 1) _ _ _ _ (by omega) hd' hr
theorem exK_ok {ex : Exit} {a : Bool} {b : Exit → Bool} (h : exK ex a b = true) : (ex = .normal ∧ a = true) ∨ (ex ≠ .normal ∧ b ex = true) := by
  cases ex <;> first | exact .inl ⟨rfl, h⟩ | exact .inr ⟨(fun h => by cases h), h⟩
def GoodCode (P : Program) (R : Ro) (m : M) : Prop := ∀ ac nt e h n k H, Sim h n H → codeF P R m ac e h n k = true → AWp P R nt ac (PostT k) (envT e) H
theorem codeF_ok (hmix : P.follows .mixedOrders = true) (hm : GoodCall P R m) (hl : ∀ a, (∀ nt e h n k H, Sim h n H → codeF P R m a e h n k = true → AWp P R nt a (PostT k) (envT e) H) → ∀ nt e h n k H, Sim h n H → codeF P R m (.loop a) e h n k = true → AWp P R nt (.loop a) (PostT k) (envT e) H) :
    GoodCode P R m := by
  intro ac
  induction ac with
  | skip => intro nt e h n k H s hk; exact AWp.skip ⟨e, h, n, rfl, s, hk⟩
  | ops l => intro nt e h n k H s hk; exact AWp.ops (opsF_ok (q := fun e h n => k .normal e h n) hm hk s)
  | draw l B =>
    intro nt e h n k H s hk
    have hk : Bool.casesOn (motive := fun _ => Bool) (seqOk l 0) (drawF P R m l B (fun e h n => k .normal e h n) l.length [] [] e h n) (opsF P R m (l.map DOper.o) e h n fun e h n => k .normal e h n) = true := hk
    cases hs : seqOk l 0 with
    | false => rw [hs] at hk; exact AWp.draw hmix (drawF_ok (q := fun e h n => k .normal e h n) hm _ [] [] hk s)
    | true =>
      rw [hs] at hk
      refine AWp.draw hmix (exec_seq (fun j d hd => by have := seqOk_ok hs j d hd; simpa using this) l.length 0 [] [] _ _ (by omega) (fun j => by simp) ?_)
      exact opsF_ok (q := fun e h n => k .normal e h n) hm hk s
  | seq a b iha ihb =>
    intro nt e h n k H s hk
    refine AWp.seq ((iha nt e h n _ H s hk).mono ?_)
    rintro ex e1 H1 ⟨e', h', n', rfl, s', hk'⟩
    rcases exK_ok hk' with ⟨rfl, hk'⟩ | ⟨hne, hk'⟩
    · exact ihb nt e' h' n' k H1 s' hk'
    · cases ex <;> first | exact absurd rfl hne | exact ⟨e', h', n', rfl, s', hk'⟩
  | cond c a b iha ihb =>
    intro nt e h n k H s hk
    obtain ⟨t, ht, hk⟩ := isBool_ok (show isBool (xF e c) (fun t => Bool.casesOn (motive := fun _ => Bool) t (codeF P R m b e h n k) (codeF P R m a e h n k)) false = true from hk)
    cases t with
    | false => exact AWp.cond (t := false) (by rw [xF_eq, ht]) (fun h0 => by cases h0) (fun _ => ihb nt e h n k H s hk)
    | true => exact AWp.cond (t := true) (by rw [xF_eq, ht]) (fun _ => iha nt e h n k H s hk) (fun h0 => by cases h0)
  | block id a iha =>
    intro nt e h n k H s hk
    refine AWp.block ((iha nt e h n _ H s hk).mono ?_)
    rintro ex e1 H1 ⟨e', h', n', rfl, s', hk'⟩
    cases ex with
    | exit id' =>
      simp only [QBlock]
      have hk' : Bool.casesOn (motive := fun _ => Bool) (Nat.beq id' id) (k (.exit id') e' h' n') (k .normal e' h' n') = true := hk'
      cases hb : Nat.beq id' id with
      | false =>
        rw [hb] at hk'
        rw [if_neg (by intro h0; rw [h0] at hb; simp at hb)]
        exact ⟨e', h', n', rfl, s', hk'⟩
      | true =>
        rw [hb] at hk'
        rw [if_pos (Nat.eq_of_beq_eq_true hb)]
        exact ⟨e', h', n', rfl, s', hk'⟩
    | _ => exact ⟨e', h', n', rfl, s', hk'⟩
  | loop a iha => exact hl a iha
  | exit id => intro nt e h n k H s hk; exact AWp.exit ⟨e, h, n, rfl, s, hk⟩
  | ret => intro nt e h n k H s hk; exact AWp.ret ⟨e, h, n, rfl, s, hk⟩
  | bad => intro nt e h n k H s hk; cases hk
theorem argsE_ok : ∀ (as : List AV) (i : Nat) (e : ET) (q : ET → Bool), argsE as i e q = true → ∃ e', (∀ t, gE e' t = if i ≤ t ∧ t < i + as.length then as.getD (t - i) AV.undef else gE e t) ∧ q e' = true
  | [], i, e, q, h => ⟨e, fun t => by rw [if_neg (by simp)], h⟩
  | v :: as, i, e, q, h => by
    have h : BT.setK AV.undef e i v (fun e => fN (Nat.succ i) fun i => argsE as i e q) = true := h
    rw [BT.setK_eq, fN_eq] at h
    obtain ⟨e', h1, h2⟩ := argsE_ok as (i + 1) _ q h
    refine ⟨e', fun t => ?_, h2⟩
    rw [h1 t]
    unfold gE
    rw [BT.get_set]
    by_cases ht : t = i
    · subst ht; rw [if_neg (by omega), if_pos rfl, if_pos (by simp)]; simp
    · rw [if_neg ht]
      by_cases h3 : i + 1 ≤ t ∧ t < i + 1 + as.length
      · rw [if_pos h3, if_pos (by simp; omega)]
        rw [show t - i = (t - (i + 1)) + 1 from by omega]
        simp
      · rw [if_neg h3, if_neg (by simp; omega)]
theorem res1K_ok {e : ET} {h : HT} {n : Nat} {H : AH} (s : Sim h n H) {r : RX} {q : AV → Bool} (hk : res1K e h r q = true) : ∃ v, resE1 R (envT e) H r = some v ∧ q v = true := by
  cases r with
  | tmp t =>
    have hk : hd (gE e t) q = true := hk
    rw [hd_eq] at hk
    exact ⟨_, rfl, hk⟩
  | cell t z =>
    obtain ⟨l, o, hx, hk⟩ := isPtr_ok (show isPtr (gE e t) _ false = true from hk)
    have hx : envT e t = .ptr l o := hx
    rcases isMu_ok hk with ⟨i, hl0, hk1⟩ | ⟨b, hl0, hk1⟩
    · subst hl0
      have hk := hk1
      obtain ⟨c, hc, hl, hk⟩ := withK_ok hk
      obtain ⟨hi, hg⟩ := s.at rfl hl
      cases z with
      | none =>
        obtain ⟨v, hv, hk⟩ := nthK_ok hk
        exact ⟨v, by simp [resE1, hx, read1, hg, hc, hv], hk⟩
      | some z =>
        obtain ⟨h1, hk⟩ := dropK_ok hk
        obtain ⟨h2, hk⟩ := takeK_ok hk
        have h3 : o + z ≤ c.length := by simp at h2; omega
        exact ⟨_, by simp [resE1, hx, readN, hg, hc, h3], hk⟩
    · subst hl0
      have hk := hk1
      cases hk
theorem resK_ok {e : ET} {h : HT} {n : Nat} {H : AH} (s : Sim h n H) : ∀ {rs : List RX} {q : List AV → Bool}, resK e h rs q = true → ∃ vs, resE R (envT e) H rs = some vs ∧ q vs = true
  | [], q, hk => ⟨[], rfl, hk⟩
  | r :: rs, q, hk => by
    obtain ⟨v, h1, hk⟩ := res1K_ok (R := R) s (show res1K e h r (fun v => resK e h rs fun vs => q (v :: vs)) = true from hk)
    obtain ⟨vs, h2, hk⟩ := resK_ok s hk
    exact ⟨v :: vs, by simp [resE, h1, h2], hk⟩
theorem resVK_eq (vs : List AV) (q : AV → Bool) : resVK vs q = q (resV vs) := by
  match vs with
  | [] => rfl
  | [v] => rfl
  | v :: w :: r => rfl
theorem callF_ok (htab : ∀ f af, tab f = some af → FnOk P f af) (hctr : ∀ f g, ctr f = some g → CtrOk P R f g) (hm : GoodCall P R m) (hc : ∀ ac nt e h n k H, Sim h n H → m.code ac e h n k = true → AWp P R nt ac (PostT k) (envT e) H) {f : FuncId} {args : List AV} {h : HT} {n : Nat} {k : AV → HT → Nat → Bool}
    (hk : callF tab ctr m f args h n k = true) {H : AH} (s : Sim h n H) : ACalls P R f args H (PostC k) := by
  unfold callF at hk
  split at hk
  · rename_i af haf
    obtain ⟨h1, hk⟩ := chk_ok hk
    have h1 := Nat.le_of_ble_eq_true h1
    rw [lenK_eq] at h1
    obtain ⟨e, he, hk⟩ := argsE_ok _ _ _ _ hk
    refine ACalls.of_body (htab f af haf) h1 ?_
    have henv : env0 args = envT e := by
      funext t
      have := he t
      simp only [Nat.zero_le, true_and, Nat.zero_add, Nat.sub_zero] at this
      show args.getD t AV.undef = gE e t
      rw [this]
      split
      · rfl
      · rename_i hlt
        simp [Nat.le_of_not_lt hlt]; rfl
    rw [henv]
    refine (hc _ _ _ _ _ _ _ s hk).mono ?_
    rintro ex e1 H1 ⟨e', h', n', rfl, s', hk'⟩
    cases ex <;> first
      | (obtain ⟨vs, h2, hk'⟩ := resK_ok (R := R) s' hk'
         rw [resVK_eq] at hk'
         simp only [QRet, h2]
         exact ⟨h', n', s', hk'⟩)
      | cases hk'
  · split at hk
    · rename_i g hg
      exact hctr f g hg m hm hc _ _ _ _ _ s hk
    · cases hk
theorem run_ok (hmix : P.follows .mixedOrders = true) (htab : ∀ f af, tab f = some af → FnOk P f af) (hctr : ∀ f g, ctr f = some g → CtrOk P R f g) :
    ∀ j, GoodCode P R (runM P R tab ctr j) ∧ GoodCall P R (runM P R tab ctr j) := by
  intro j
  induction j using Nat.strongRecOn with
  | _ j ih =>
  have hcall : GoodCall P R (runM P R tab ctr j) := by
    intro f args h n k H s hk
    cases j with
    | zero => cases hk
    | succ i =>
      refine callF_ok htab hctr (ih i (by omega)).2 ?_ (show callF tab ctr (runM P R tab ctr i) f args h n k = true from hk) s
      intro ac nt e h n k H s hk
      cases i with
      | zero => cases hk
      | succ i => exact (ih i (by omega)).1 ac nt e h n k H s hk
  refine ⟨codeF_ok hmix hcall ?_, hcall⟩
  intro a iha nt e h n k H s hk
  refine AWp.loop_ind (fun i e H => i ≤ j ∧ ∃ e' h n, e = envT e' ∧ Sim h n H ∧ codeF P R (runM P R tab ctr i) (.loop a) e' h n k = true) (n := j) ⟨Nat.le_refl _, e, h, n, rfl, s, hk⟩ ?_
  rintro i e1 H1 ⟨hij, e', h', n', rfl, s', hk'⟩
  have hbody : ∀ nt e h n k H, Sim h n H → codeF P R (runM P R tab ctr i) a e h n k = true → AWp P R nt a (PostT k) (envT e) H := by
    by_cases he : i = j
    · subst he; exact iha
    · exact (ih i (by omega)).1 a
  refine (hbody nt e' h' n' _ H1 s' (show codeF P R (runM P R tab ctr i) a e' h' n' (fun ex e h n => exK ex ((runM P R tab ctr i).code (.loop a) e h n k) fun ex => k ex e h n) = true from hk')).mono ?_
  rintro ex e2 H2 ⟨e3, h3, n3, rfl, s3, hk3⟩
  rcases exK_ok hk3 with ⟨rfl, hk3⟩ | ⟨hne, hk3⟩
  · cases i with
    | zero => cases hk3
    | succ i => exact ⟨i, Nat.lt_succ_self i, by omega, e3, h3, n3, rfl, s3, hk3⟩
  · cases ex <;> first | exact absurd rfl hne | exact ⟨e3, h3, n3, rfl, s3, hk3⟩
def goTrue (v : AV) (_ : HT) (_ : Nat) : Bool := isBool v (fun b => b) false
/-- A call without arguments that is run to true. -/
def evGo (P : Program) (R : Ro) (tab : FuncId → Option AFn) (ctr : FuncId → Option Ctr) (j f : Nat) : Bool := (runM P R tab ctr j).call f [] .nil 0 goTrue
theorem evGo_ok (hmix : P.follows .mixedOrders = true) (htab : ∀ f af, tab f = some af → FnOk P f af) (hctr : ∀ f g, ctr f = some g → CtrOk P R f g) {j f : Nat} (h : evGo P R tab ctr j f = true) : ACalls P R f [] [] fun v _ => v = .bool true := by
  refine ((run_ok hmix htab hctr j).2 f [] .nil 0 goTrue [] sim_nil h).mono ?_
  rintro v H ⟨h', n', _, hv⟩
  obtain ⟨b, rfl, hb⟩ := isBool_ok hv
  rw [hb]
end
end
def noCtr : FuncId → Option Ctr := fun _ => none
theorem noCtr_ok {P : Program} {R : Ro} : ∀ f g, noCtr f = some g → CtrOk P R f g := fun f g h => by cases h
end Am
