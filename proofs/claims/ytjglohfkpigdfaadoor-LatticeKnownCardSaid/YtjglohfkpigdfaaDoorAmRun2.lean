/- The quick evaluator's operations. -/
import Derived.Test.YtjglohfkpigdfaaDoorAmRun
set_option linter.unusedSimpArgs false
set_option linter.unusedVariables false
set_option linter.unusedSectionVars false
set_option linter.unnecessarySimpa false
namespace Am
open Go Go.RowKit
noncomputable section
universe u
def chk (b x : Bool) : Bool := Bool.casesOn (motive := fun _ => Bool) b false x
theorem chk_ok {b x : Bool} (h : chk b x = true) : b = true ∧ x = true := by cases b <;> first | exact ⟨rfl, h⟩ | cases h
def ohd {β : Type u} (o : AO) (k : AO → β) : β := AO.casesOn (motive := fun _ => β) o (fun c t => k (.cells c t)) (fun c t sz => k (.row c t sz)) (fun es n => k (.map es n)) (fun s n => k (.siter s n)) (k .dead)
theorem ohd_eq {β : Type u} (o : AO) (k : AO → β) : ohd o k = k o := by cases o <;> rfl
def kn (k : IntKind) : Nat := IntKind.casesOn (motive := fun _ => Nat) k 0 1 2 3 4 5 6 7
def kq (a b : IntKind) : Bool := Nat.beq (kn a) (kn b)
theorem kq_ok {a b : IntKind} (h : kq a b = true) : a = b := by
  have := Nat.eq_of_beq_eq_true h
  cases a <;> cases b <;> first | rfl | (simp [kn] at this)
def xF (e : ET) (x : X) : AV := X.casesOn (motive := fun _ => AV) x (fun t => gE e t) (fun v => v)
theorem xF_eq (e : ET) (x : X) : x.ev (envT e) = xF e x := by cases x <;> rfl
def pushF (h : HT) (n : Nat) (o : AO) (k : HT → Nat → Bool) : Bool := BT.setK .dead h n o fun h => fN (Nat.succ n) fun n => k h n
theorem pushF_eq (h : HT) (n : Nat) (o : AO) (k : HT → Nat → Bool) : pushF h n o k = k (h.set .dead n o) (n + 1) := by
  unfold pushF; rw [BT.setK_eq, fN_eq]
def putF (h : HT) (i : Nat) (o : AO) (k : HT → Bool) : Bool := ohd o fun o => BT.setK .dead h i o k
theorem putF_eq (h : HT) (i : Nat) (o : AO) (k : HT → Bool) : putF h i o k = k (h.set .dead i o) := by
  unfold putF; rw [ohd_eq, BT.setK_eq]
def idxK (j : Int) (ln : Nat) (k : Nat → Bool) : Bool := Int.casesOn (motive := fun _ => Bool) j (fun j => chk (Nat.ble (Nat.succ j) ln) (k j)) (fun _ => false)
theorem idxK_ok {j : Int} {ln : Nat} {k : Nat → Bool} (h : idxK j ln k = true) : 0 ≤ j ∧ j < ln ∧ k j.toNat = true := by
  cases j with
  | ofNat j =>
    obtain ⟨h1, h2⟩ := chk_ok (show chk (Nat.ble (Nat.succ j) ln) (k j) = true from h)
    have := Nat.le_of_ble_eq_true h1
    exact ⟨by simp, by simp; omega, h2⟩
  | negSucc j => cases h

/-- A text's length, counted from the front. -/
def lenT (s : List UInt8) : Nat → (Nat → Bool) → Bool := List.rec (motive := fun _ => Nat → (Nat → Bool) → Bool) (fun n k => k n) (fun _ _ ih n k => fN (Nat.succ n) fun n => ih n k) s
theorem lenT_add : ∀ (s : List UInt8) (n : Nat) (k : Nat → Bool), lenT s n k = k (n + s.length)
  | [], n, k => rfl
  | c :: s, n, k => by
    show fN (Nat.succ n) (fun n => lenT s n k) = _
    rw [fN_eq, lenT_add]
    congr 1
    simp only [List.length_cons]; omega
theorem lenT_eq (s : List UInt8) (k : Nat → Bool) : lenT s 0 k = k s.length := by rw [lenT_add, Nat.zero_add]
section
variable (P : Program) (R : Ro) (e : ET) (h : HT) (n : Nat) (k : AV → HT → Nat → Bool)
def slowQ (op : AOp) : Bool := match op.eval P R (envT e) (listH h n) with
  | some (v, _) => fAV v fun v => k v h n
  | none => false
def ofL (H : AH) : HT → Nat → (HT → Nat → Bool) → Bool := List.rec (motive := fun _ => HT → Nat → (HT → Nat → Bool) → Bool) (fun h n k => k h n) (fun o _ ih h n k => fO o fun o => pushF h n o fun h n => ih h n k) H
def slowE (op : AOp) : Bool := match op.eval P R (envT e) (listH h n) with
  | some (v, H') => fAV v fun v => ofL H' .nil 0 fun h n => k v h n
  | none => false
def loadF (m : Option Nat) (x : X) : Bool := isPtr (xF e x) (fun l o => isMu l
  (fun i => withK (gH h i) fun c _ => Option.casesOn (motive := fun _ => Bool) m (nthK c o fun v => k v h n) (fun m => dropK c o fun d => takeK d m fun d => k (.agg d) h n))
  (fun b => Option.casesOn (motive := fun _ => Bool) m (Option.casesOn (motive := fun _ => Bool) (R b o) false fun v => hd v fun v => k v h n) (fun m => slowQ P R e h n k (.load (some m) x)))) false
def storeF (m : Nat) (x v : X) : Bool := isPtr (xF e x) (fun l o => isMu l
  (fun i => cellsK (xF e v) fun vs => chk (Nat.beq (lenK vs) m) (chk (ones vs) (withK (gH h i) fun c r => spliceK vs c o fun c => putF h i (r c) fun h => k AV.undef h n)))
  (fun _ => false)) false
def intF (op : BinOp) (x y : X) (a : IntKind) (i : Int) (b : IntKind) (j : Int) : Bool := match op with
  | .add => chk (kq a b) (addF i j fun z => wrF a z fun z => k (.int a z) h n)
  | .sub => chk (kq a b) (subF i j fun z => wrF a z fun z => k (.int a z) h n)
  | .mul => chk (kq a b) (mulF i j fun z => wrF a z fun z => k (.int a z) h n)
  | .eql => chk (kq a b) (fB (eqF i j) fun t => k (.bool t) h n)
  | .neq => chk (kq a b) (fB (!(eqF i j)) fun t => k (.bool t) h n)
  | .lss => chk (kq a b) (fB (ltF i j) fun t => k (.bool t) h n)
  | .gtr => chk (kq a b) (fB (ltF j i) fun t => k (.bool t) h n)
  | .leq => chk (kq a b) (fB (!(ltF j i)) fun t => k (.bool t) h n)
  | .geq => chk (kq a b) (fB (!(ltF i j)) fun t => k (.bool t) h n)
  | op => slowQ P R e h n k (.bin op x y)
def binF (op : BinOp) (x y : X) : Bool := isInt (xF e x) (fun a i => isInt (xF e y) (fun b j => intF P R e h n k op x y a i b j) false) (slowQ P R e h n k (.bin op x y))
/-- What is appended. -/
def srcK (sz : Nat) (x : X) (q : List AV → Nat → Bool) : Bool := isSlice (xF e x) (fun l o m _ => isMu l (fun i => withK (gH h i) fun c _ => dropK c o fun d => fN (Nat.mul m sz) fun z => takeK d z fun d => q d m)
  (fun _ => match srcEv R [] sz (xF e x) with | some (d, m) => fAVL d fun d => q d m | none => false)) (q [] 0) (match srcEv R [] sz (xF e x) with | some (d, m) => fAVL d fun d => fN m fun m => q d m | none => false)
def appendF (t sz by' : Nat) (s x : X) : Bool := srcK R e h sz x fun new m => chk (ones new) (chk (Nat.ble 1 sz) (chk (Nat.ble 1 by')
  (isSlice (xF e s) (fun l off len cap => fN (Nat.add len m) fun need => chk (Nat.ble (Nat.mul need by') 140737488355328) (isMu l (fun i => Cap.casesOn (motive := fun _ => Bool) cap
      (fun c => Bool.casesOn (motive := fun _ => Bool) (Nat.ble need c)
        (withK (gH h i) fun cc _ => dropK cc off fun d => fN (Nat.mul len sz) fun z => takeK d z fun old => appK old new fun r => pushF h n (.row r t sz) fun h' n' => k (.slice (.mu n) 0 need (.opn 0)) h' n')
        (Nat.casesOn (motive := fun _ => Bool) m (k (.slice l off need (.known c)) h n) fun _ => withK (gH h i) fun cc r => fN (Nat.add off (Nat.mul len sz)) fun z => spliceK new cc z fun cc => putF h i (r cc) fun h => k (.slice l off need (.known c)) h n))
      (fun eo => AO.casesOn (motive := fun _ => Bool) (gH h i) (fun _ _ => false)
        (fun c t' sz' => chk (Nat.beq t' t) (chk (Nat.beq sz' sz) (chk (Nat.beq off (Nat.mul eo sz)) (fN (Nat.mul len sz) fun z => dropK c off fun d => takeK d z fun old =>
          Bool.casesOn (motive := fun _ => Bool) (Nat.ble (Nat.add off (Nat.mul need sz)) (lenK c))
            (appK old new fun r => putF h i .dead fun h => pushF h n (.row r t sz) fun h' n' => k (.slice (.mu n) 0 need (.opn 0)) h' n')
            (fN (Nat.add off z) fun z => spliceK new c z fun cc => putF h i (.row cc t' sz') fun h => k (.slice l off need (.opn eo)) h n)))))
        (fun _ _ => false) (fun _ _ => false) false))
      (fun _ => slowE P R e h n k (.append t sz by' s x))))
    (Nat.casesOn (motive := fun _ => Bool) m (k .nilslice h n) fun _ => chk (Nat.ble (Nat.mul m by') 140737488355328) (pushF h n (.row new t sz) fun h' n' => k (.slice (.mu n) 0 m (.opn 0)) h' n'))
    false)))
def sliceF (sz : Nat) (x : X) (lo hi mx : Option X) : Bool := isSlice (xF e x)
  (fun l off len cap => Cap.casesOn (motive := fun _ => Bool) cap
    (fun _ => match sliceEv [] sz (xF e x) (lo.map (xF e)) (hi.map (xF e)) (mx.map (xF e)) with | some (v, _) => fAV v fun v => k v h n | none => false)
    (fun eo => isMu l (fun i => AO.casesOn (motive := fun _ => Bool) (gH h i) (fun _ _ => false)
      (fun c t sz' => match sliceEv [.row c t sz'] sz (.slice (.mu 0) off len (.opn eo)) (lo.map (xF e)) (hi.map (xF e)) (mx.map (xF e)) with
        | some (.slice (.mu 0) o m cp, _) => fN o fun o => fN m fun m => fCap cp fun cp => k (.slice (.mu i) o m cp) h n
        | some (.slice (.mu 1) _ _ _, _) => pushF h n .dead fun h' n' => k (.slice (.mu n) 0 0 (.opn 0)) h' n'
        | some _ => slowE P R e h n k (.slice sz x lo hi mx)
        | none => false)
      (fun _ _ => false) (fun _ _ => false) false) (fun _ => false)))
  (slowE P R e h n k (.slice sz x lo hi mx)) false
def siterK (o : AO) (q : List UInt8 → Nat → Bool) : Bool := AO.casesOn (motive := fun _ => Bool) o (fun _ _ => false) (fun _ _ _ => false) (fun _ _ => false) (fun s p => q s p) false
def nextF (x : X) : Bool := isPtr (xF e x) (fun l o => isMu l (fun i => Nat.casesOn (motive := fun _ => Bool) o (siterK (gH h i) fun s pos => lenT s 0 fun m => Bool.casesOn (motive := fun _ => Bool) (Nat.ble (Nat.succ pos) m)
    (k (.tuple [.bool false]) h n)
    (fI (Utf8.decode ⟨⟨s⟩⟩ pos).1 fun r => fN (pos + (Utf8.decode ⟨⟨s⟩⟩ pos).2) fun p => putF h i (.siter s p) fun h => k (.tuple [.bool true, .int .i64 (.ofNat pos), .int .i32 r]) h n))
  (fun _ => false)) (fun _ => false)) false
def bsliceF (t sz ln : Nat) (z : List AV) (ps : List (Nat × X)) : Bool := match fillA ((List.range ln).map fun i => (i * sz, sz)) (zerosEv z ln) (ps.map fun p => (p.1, xF e p.2)) with
  | some c => chk (Nat.beq (lenK z) sz) (fAVL c fun c => chk (ones c) (pushF h n (.cells c t) fun h' n' => k (.slice (.mu n) 0 ln (.known ln)) h' n'))
  | none => false
def makeF (t sz by' : Nat) (z : List AV) (l c : X) : Bool := isInt (xF e l) (fun _ l => isInt (xF e c) (fun _ c => idxK l (Nat.succ c.toNat) fun l => chk (decide (0 ≤ c ∧ by' * c ≤ 281474976710656 ∧ c ≤ 9223372036854775807)) (chk (Nat.beq (lenK z) sz) (chk (ones z)
    (fN c.toNat fun c => fAVL (zerosEv z c) fun cs => pushF h n (.cells cs t) fun h' n' => k (.slice (.mu n) 0 l (.known c)) h' n')))) false) false
def opF (op : AOp) : Bool := match op with
  | .mv x => hd (xF e x) fun v => k v h n
  | .pick c a b => isBool (xF e c) (fun t => Bool.casesOn (motive := fun _ => Bool) t (hd (xF e b) fun v => k v h n) (hd (xF e a) fun v => k v h n)) false
  | .load m x => loadF P R e h n k m x
  | .store m x v => storeF e h n k m x v
  | .bin op x y => binF P R e h n k op x y
  | .ext x i => isAgg (xF e x) (fun _ => false) (fun vs => nthK vs i fun v => k v h n) false
  | .fld off m x => isAgg (xF e x) (fun cs => Option.casesOn (motive := fun _ => Bool) m (nthK cs off fun v => k v h n) (fun m => dropK cs off fun l => takeK l m fun l => k (.agg l) h n)) (fun _ => false) false
  | .addr d x => isPtr (xF e x) (fun l o => fN (Nat.add o d) fun o => k (.ptr l o) h n) false
  | .iaddrS sz x i => isSlice (xF e x) (fun l o ln _ => isInt (xF e i) (fun _ j => idxK j ln fun j => fN (Nat.add o (Nat.mul j sz)) fun o => k (.ptr l o) h n) false) false false
  | .iaddrA ln sz x i => isPtr (xF e x) (fun l o => isInt (xF e i) (fun _ j => idxK j ln fun j => fN (Nat.add o (Nat.mul j sz)) fun o => k (.ptr l o) h n) false) false
  | .lenL x => isSlice (xF e x) (fun _ _ m _ => k (.int .i64 (.ofNat m)) h n) (k (.int .i64 (.ofNat 0)) h n) false
  | .alloc t z => chk (ones z) (pushF h n (.cells z t) fun h' n' => k (.ptr (.mu n) 0) h' n')
  | .box t x => cellsK (xF e x) fun c => chk (ones c) (pushF h n (.cells c t) fun h' n' => k (.ptr (.mu n) 0) h' n')
  | .convI kk x => isInt (xF e x) (fun _ z => wrF kk z fun z => k (.int kk z) h n) false
  | .append t sz by' s x => appendF P R e h n k t sz by' s x
  | .slice sz x lo hi mx => sliceF P R e h n k sz x lo hi mx
  | .lenS x => isStr (xF e x) (fun s => lenT s 0 fun m => k (.int .i64 (.ofNat m)) h n) false
  | .rangeS x => isStr (xF e x) (fun s => pushF h n (.siter s 0) fun h' n' => k (.ptr (.mu n) 0) h' n') false
  | .nextS x => nextF e h n k x
  | .bslice t sz ln z ps => bsliceF e h n k t sz ln z ps
  | .mksl t sz by' z l c => makeF e h n k t sz by' z l c
  | .mkmap => pushF h n (.map [] 0) fun h' n' => k (.map n) h' n'
  | .call _ _ => false
  | .callv _ _ => false
  | .bad => false
  | op => match op.quiet with
    | true => slowQ P R e h n k op
    | false => slowE P R e h n k op
end

section
variable {P : Program} {R : Ro} {e : ET} {h : HT} {n : Nat} {k : AV → HT → Nat → Bool}
def Res (P : Program) (R : Ro) (e : ET) (k : AV → HT → Nat → Bool) (H : AH) (op : AOp) : Prop := ∃ v H' h' n', op.eval P R (envT e) H = some (v, H') ∧ Sim h' n' H' ∧ k v h' n' = true
theorem slowQ_ok {op : AOp} (hq : op.quiet = true) (hk : slowQ P R e h n k op = true) {H : AH} (s : Sim h n H) : Res P R e k H op := by
  unfold slowQ at hk
  rw [s.list] at hk
  split at hk
  · rename_i v H' hev
    have := quiet_same hq hev
    subst this
    rw [fAV_eq] at hk
    exact ⟨v, _, h, n, hev, s, hk⟩
  · cases hk
theorem ofL_ok : ∀ {H G : AH} {h : HT} {n : Nat} {k : HT → Nat → Bool}, Sim h n G → ofL H h n k = true → ∃ h' n', Sim h' n' (G ++ H) ∧ k h' n' = true
  | [], G, h, n, k, s, hk => ⟨h, n, by simpa using s, hk⟩
  | o :: H, G, h, n, k, s, hk => by
    have hk : fO o (fun o => pushF h n o fun h n => ofL H h n k) = true := hk
    rw [fO_eq, pushF_eq] at hk
    obtain ⟨h', n', h1, h2⟩ := ofL_ok (s.push o) hk
    exact ⟨h', n', by simpa using h1, h2⟩
theorem slowE_ok {op : AOp} (hk : slowE P R e h n k op = true) {H : AH} (s : Sim h n H) : Res P R e k H op := by
  unfold slowE at hk
  rw [s.list] at hk
  split at hk
  · rename_i v H' hev
    rw [fAV_eq] at hk
    obtain ⟨h', n', h1, h2⟩ := ofL_ok sim_nil hk
    exact ⟨v, _, h', n', hev, by simpa using h1, h2⟩
  · cases hk
theorem isMu_ok {l : Loc} {k kr : Nat → Bool} (h : isMu l k kr = true) : (∃ i, l = .mu i ∧ k i = true) ∨ (∃ b, l = .ro b ∧ kr b = true) := by
  cases l <;> first | exact .inl ⟨_, rfl, h⟩ | exact .inr ⟨_, rfl, h⟩
theorem loadF_ok {m : Option Nat} {x : X} (hk : loadF P R e h n k m x = true) {H : AH} (s : Sim h n H) : Res P R e k H (.load m x) := by
  obtain ⟨l, o, hx, hk⟩ := isPtr_ok hk
  rcases isMu_ok hk with ⟨i, hl0, hk1⟩ | ⟨b, hl0, hk1⟩
  · subst hl0
    have hk := hk1
    obtain ⟨c, hc, hl, hk⟩ := withK_ok hk
    obtain ⟨hi, hg⟩ := s.at rfl hl
    cases m with
    | none =>
      obtain ⟨v, hv, hk⟩ := nthK_ok hk
      exact ⟨v, H, h, n, by simp [AOp.eval, xF_eq, hx, read1, hg, hc, hv], s, hk⟩
    | some m =>
      obtain ⟨h1, hk⟩ := dropK_ok hk
      obtain ⟨h2, hk⟩ := takeK_ok hk
      refine ⟨_, H, h, n, ?_, s, hk⟩
      have h3 : o + m ≤ c.length := by simp at h2; omega
      simp [AOp.eval, xF_eq, hx, readN, hg, hc, h3]
  · subst hl0
    have hk := hk1
    cases m with
    | none =>
      have hk : (Option.casesOn (motive := fun _ => Bool) (R b o) false fun v => hd v fun v => k v h n) = true := hk
      cases hR : R b o with
      | none => rw [hR] at hk; cases hk
      | some v =>
        rw [hR] at hk
        have hk : hd v (fun v => k v h n) = true := hk
        rw [hd_eq] at hk
        exact ⟨v, H, h, n, by simp [AOp.eval, xF_eq, hx, read1, hR], s, hk⟩
    | some m => exact slowQ_ok rfl hk s
theorem storeF_ok {m : Nat} {x v : X} (hk : storeF e h n k m x v = true) {H : AH} (s : Sim h n H) : Res P R e k H (.store m x v) := by
  obtain ⟨l, o, hx, hk⟩ := isPtr_ok hk
  rcases isMu_ok hk with ⟨i, hl0, hk1⟩ | ⟨b, hl0, hk1⟩
  · subst hl0
    have hk := hk1
    rw [cellsK_eq] at hk
    obtain ⟨h1, hk⟩ := chk_ok hk
    have h1 := Nat.eq_of_beq_eq_true h1
    rw [lenK_eq] at h1
    obtain ⟨h2, hk⟩ := chk_ok hk
    rw [ones_eq] at h2
    obtain ⟨c, hc, hl, hk⟩ := withK_ok hk
    obtain ⟨hi, hg⟩ := s.at rfl hl
    obtain ⟨h3, hk⟩ := spliceK_ok hk
    rw [putF_eq] at hk
    refine ⟨AV.undef, _, _, n, ?_, s.put hi _, hk⟩
    simp [AOp.eval, xF_eq, hx, h1, writeN, hg, hc, h2]
    omega
  · subst hl0
    have hk := hk1
    cases hk
theorem intF_ok {op : BinOp} {x y : X} {a b : IntKind} {i j : Int} (hx : xF e x = .int a i) (hy : xF e y = .int b j) (hk : intF P R e h n k op x y a i b j = true) {H : AH} (s : Sim h n H) : Res P R e k H (.bin op x y) := by
  unfold intF at hk
  split at hk
  case h_10 => exact slowQ_ok rfl hk s
  all_goals
    obtain ⟨h1, hk2⟩ := chk_ok hk
    have h1 := kq_ok h1
    subst h1
    simp only [addF_eq, subF_eq, mulF_eq, wrF_eq, fB_eq, eqF_eq, ltF_eq] at hk2
    refine ⟨_, H, h, n, ?_, s, hk2⟩
    simp [AOp.eval, xF_eq, hx, hy, binEv, intBin, bne]
  all_goals
    rw [Bool.eq_iff_iff]; simp
theorem binF_ok {op : BinOp} {x y : X} (hk : binF P R e h n k op x y = true) {H : AH} (s : Sim h n H) : Res P R e k H (.bin op x y) := by
  unfold binF at hk
  cases hx : xF e x with
  | int a i =>
    rw [hx] at hk
    obtain ⟨b, j, hy, hk⟩ := isInt_ok (show isInt (xF e y) (fun b j => intF P R e h n k op x y a i b j) false = true from hk)
    exact intF_ok hx hy hk s
  | _ => rw [hx] at hk; exact slowQ_ok rfl hk s
theorem srcK_ok {sz : Nat} {x : X} {q : List AV → Nat → Bool} (hk : srcK R e h sz x q = true) {H : AH} (s : Sim h n H) : ∃ d m, srcEv R H sz (xF e x) = some (d, m) ∧ q d m = true := by
  unfold srcK at hk
  have key : ∀ v, v = xF e x → (∀ i o m c, v ≠ .slice (.mu i) o m c) → srcEv R H sz v = srcEv R [] sz v := by
    intro v _ hv
    cases v with
    | slice l o m c => cases l with
      | mu i => exact absurd rfl (hv i o m c)
      | ro b => rfl
    | _ => rfl
  cases hx : xF e x with
  | slice l o m c =>
    rw [hx] at hk
    cases l with
    | mu i =>
      have hk0 : withK (gH h i) (fun c _ => dropK c o fun d => fN (Nat.mul m sz) fun z => takeK d z fun d => q d m) = true := hk
      obtain ⟨c', hc, hl, hk⟩ := withK_ok hk0
      obtain ⟨hi, hg⟩ := s.at rfl hl
      obtain ⟨h1, hk⟩ := dropK_ok hk
      rw [fN_eq] at hk
      obtain ⟨h2, hk⟩ := takeK_ok hk
      refine ⟨_, _, ?_, hk⟩
      have h3 : o + m * sz ≤ c'.length := by simp at h2; omega
      simp [srcEv, readN, hg, hc, h3]
    | ro b =>
      have hk : (match srcEv R [] sz (.slice (.ro b) o m c) with | some (d, m) => fAVL d fun d => q d m | none => false) = true := hk
      split at hk
      · rename_i d m' hd
        rw [fAVL_eq] at hk
        exact ⟨d, m', by rw [← hd]; exact key _ hx.symm (fun _ _ _ _ h => by cases h), hk⟩
      · cases hk
  | nilslice => rw [hx] at hk; exact ⟨[], 0, rfl, hk⟩
  | _ =>
    rw [hx] at hk
    simp only [isSlice] at hk
    split at hk
    · rename_i d m' hd
      rw [fAVL_eq, fN_eq] at hk
      exact ⟨d, m', by rw [← hd]; exact key _ hx.symm (fun _ _ _ _ h => by cases h), hk⟩
    · cases hk
theorem appendF_ok {t sz by' : Nat} {s' x : X} (hk : appendF P R e h n k t sz by' s' x = true) {H : AH} (s : Sim h n H) : Res P R e k H (.append t sz by' s' x) := by
  obtain ⟨new, m, hsrc, hk⟩ := srcK_ok hk s
  obtain ⟨h1, hk⟩ := chk_ok hk
  rw [ones_eq] at h1
  obtain ⟨h2, hk⟩ := chk_ok hk
  have h2 : sz ≠ 0 := by have := Nat.le_of_ble_eq_true h2; omega
  obtain ⟨h3, hk⟩ := chk_ok hk
  have h3 : by' ≠ 0 := by have := Nat.le_of_ble_eq_true h3; omega
  rcases isSlice_ok hk with ⟨l, off, len, cap, hx, hk⟩ | ⟨hx, hk⟩
  · rw [fN_eq] at hk
    obtain ⟨h4, hk⟩ := chk_ok hk
    have h4 : (len + m) * by' ≤ 140737488355328 := Nat.le_of_ble_eq_true h4
    rcases isMu_ok hk with ⟨i, hl0, hk1⟩ | ⟨b, hl0, hk1⟩
    · subst hl0
      have hk := hk1
      cases cap with
      | known c =>
        have hk : (Bool.casesOn (motive := fun _ => Bool) (Nat.ble (len + m) c)
          (withK (gH h i) fun cc _ => dropK cc off fun d => fN (Nat.mul len sz) fun z => takeK d z fun old => appK old new fun r => pushF h n (.row r t sz) fun h' n' => k (.slice (.mu n) 0 (len + m) (.opn 0)) h' n')
          (Nat.casesOn (motive := fun _ => Bool) m (k (.slice (.mu i) off (len + m) (.known c)) h n) fun _ => withK (gH h i) fun cc r => fN (Nat.add off (Nat.mul len sz)) fun z => spliceK new cc z fun cc => putF h i (r cc) fun h => k (.slice (.mu i) off (len + m) (.known c)) h n)) = true := hk
        cases hb : Nat.ble (len + m) c with
        | false =>
          rw [hb] at hk
          have hb : ¬ len + m ≤ c := by intro h'; rw [Nat.ble_eq_true_of_le h'] at hb; cases hb
          obtain ⟨cc, hc, hl, hk⟩ := withK_ok hk
          obtain ⟨hi, hg⟩ := s.at rfl hl
          obtain ⟨h5, hk⟩ := dropK_ok hk
          rw [fN_eq] at hk
          obtain ⟨h6, hk⟩ := takeK_ok hk
          rw [appK_eq, pushF_eq] at hk
          refine ⟨_, _, _, _, ?_, s.push _, hk⟩
          have h7 : off + len * sz ≤ cc.length := by simp at h6; omega
          simp [AOp.eval, xF_eq, hx, appendEv, hsrc, h4, h2, h3, h1, hb, readN, hg, hc, h7, s.len]
        | true =>
          rw [hb] at hk
          have hb : len + m ≤ c := Nat.le_of_ble_eq_true hb
          cases m with
          | zero =>
            refine ⟨_, H, h, n, ?_, s, hk⟩
            simp only [Nat.add_zero] at hb h4 ⊢
            simp [AOp.eval, xF_eq, hx, appendEv, hsrc, h4, h2, h3, h1, hb]
          | succ m =>
            obtain ⟨cc, hc, hl, hk⟩ := withK_ok hk
            obtain ⟨hi, hg⟩ := s.at rfl hl
            rw [fN_eq] at hk
            obtain ⟨h5, hk⟩ := spliceK_ok hk
            rw [putF_eq] at hk
            refine ⟨_, _, _, n, ?_, s.put hi _, hk⟩
            have h7 : off + len * sz + new.length ≤ cc.length := h5
            simp [AOp.eval, xF_eq, hx, appendEv, hsrc, h4, h2, h3, h1, hb, writeN, hg, hc, h7]
      | opn eo =>
        have hk : (AO.casesOn (motive := fun _ => Bool) (gH h i) (fun _ _ => false)
          (fun c t' sz' => chk (Nat.beq t' t) (chk (Nat.beq sz' sz) (chk (Nat.beq off (Nat.mul eo sz)) (fN (Nat.mul len sz) fun z => dropK c off fun d => takeK d z fun old =>
            Bool.casesOn (motive := fun _ => Bool) (Nat.ble (Nat.add off (Nat.mul (len + m) sz)) (lenK c))
              (appK old new fun r => putF h i .dead fun h => pushF h n (.row r t sz) fun h' n' => k (.slice (.mu n) 0 (len + m) (.opn 0)) h' n')
              (fN (Nat.add off z) fun z => spliceK new c z fun cc => putF h i (.row cc t' sz') fun h => k (.slice (.mu i) off (len + m) (.opn eo)) h n)))))
          (fun _ _ => false) (fun _ _ => false) false) = true := hk
        cases ho : gH h i with
        | row c t' sz' =>
          rw [ho] at hk
          obtain ⟨hi, hg⟩ := s.at ho rfl
          obtain ⟨h5, hk⟩ := chk_ok hk
          obtain ⟨h6, hk⟩ := chk_ok hk
          obtain ⟨h7, hk⟩ := chk_ok hk
          have h5 := Nat.eq_of_beq_eq_true h5
          have h6 := Nat.eq_of_beq_eq_true h6
          have h7 : off = eo * sz := Nat.eq_of_beq_eq_true h7
          have hk1 := hk
          subst h5; subst h6
          have hk := hk1
          rw [fN_eq] at hk
          obtain ⟨h8, hk⟩ := dropK_ok hk
          obtain ⟨h9, hk⟩ := takeK_ok hk
          have h9 : off + len * sz' ≤ c.length := by simp at h9; omega
          have hk : (Bool.casesOn (motive := fun _ => Bool) (Nat.ble (off + (len + m) * sz') (lenK c))
              (appK ((c.drop off).take (len * sz')) new fun r => putF h i .dead fun h => pushF h n (.row r t' sz') fun h' n' => k (.slice (.mu n) 0 (len + m) (.opn 0)) h' n')
              (fN (off + len * sz') fun z => spliceK new c z fun cc => putF h i (.row cc t' sz') fun h => k (.slice (.mu i) off (len + m) (.opn eo)) h n)) = true := hk
          rw [lenK_eq] at hk
          cases hb : Nat.ble (off + (len + m) * sz') c.length with
          | false =>
            rw [hb] at hk
            have hb : ¬ off + (len + m) * sz' ≤ c.length := by intro h'; rw [Nat.ble_eq_true_of_le h'] at hb; cases hb
            have hk : appK ((c.drop off).take (len * sz')) new (fun r => putF h i .dead fun h => pushF h n (.row r t' sz') fun h' n' => k (.slice (.mu n) 0 (len + m) (.opn 0)) h' n') = true := hk
            rw [appK_eq, putF_eq, pushF_eq] at hk
            refine ⟨_, _, _, _, ?_, (s.put hi .dead).push _, hk⟩
            simp only [AOp.eval, xF_eq, hx, appendEv, hsrc, hg]
            rw [if_pos ⟨h4, h2, h3, h1⟩, if_pos ⟨trivial, trivial, h7, h9⟩, if_neg hb, s.len]
          | true =>
            rw [hb] at hk
            have hb : off + (len + m) * sz' ≤ c.length := Nat.le_of_ble_eq_true hb
            have hk : fN (off + len * sz') (fun z => spliceK new c z fun cc => putF h i (.row cc t' sz') fun h => k (.slice (.mu i) off (len + m) (.opn eo)) h n) = true := hk
            rw [fN_eq] at hk
            obtain ⟨h10, hk⟩ := spliceK_ok hk
            rw [putF_eq] at hk
            refine ⟨_, _, _, n, ?_, s.put hi _, hk⟩
            simp only [AOp.eval, xF_eq, hx, appendEv, hsrc, hg]
            rw [if_pos ⟨h4, h2, h3, h1⟩, if_pos ⟨trivial, trivial, h7, h9⟩, if_pos hb]
            simp [writeN, hg, AO.content, AO.withContent, h10]
            simpa using h1
        | _ => rw [ho] at hk; cases hk
    · subst hl0
      have hk := hk1
      exact slowE_ok hk s
  · cases m with
    | zero =>
      refine ⟨.nilslice, H, h, n, ?_, s, hk⟩
      simp [AOp.eval, xF_eq, hx, appendEv, hsrc]
    | succ m =>
      obtain ⟨h4, hk⟩ := chk_ok (show chk (Nat.ble (Nat.mul (m + 1) by') 140737488355328) (pushF h n (.row new t sz) fun h' n' => k (.slice (.mu n) 0 (m + 1) (.opn 0)) h' n') = true from hk)
      have h4 : (m + 1) * by' ≤ 140737488355328 := Nat.le_of_ble_eq_true h4
      rw [pushF_eq] at hk
      refine ⟨_, _, _, _, ?_, s.push _, hk⟩
      simp only [AOp.eval, xF_eq, hx, appendEv, hsrc]
      rw [if_neg (by omega), if_pos ⟨h4, h2, h3, h1⟩, s.len]
end
end
end Am
