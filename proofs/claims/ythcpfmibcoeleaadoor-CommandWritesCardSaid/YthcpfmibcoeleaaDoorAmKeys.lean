/- Texts as a map's keys; a map that a call makes, wherever it is called. -/
import Derived.Test.YthcpfmibcoeleaaDoorAmLib
set_option linter.unusedSimpArgs false
set_option linter.unusedVariables false
set_option linter.unusedSectionVars false
set_option linter.unnecessarySimpa false
namespace Am
open Go Go.RowKit
/-- Where a key stands. -/
def placeOf (s : List UInt8) : List (List UInt8) → Option Nat
  | [] => none
  | t :: ts => if t = s then some 0 else (placeOf s ts).map (· + 1)
theorem bytes_beq (a b : List UInt8) : ((⟨⟨a⟩⟩ : ByteArray) == ⟨⟨b⟩⟩) = decide (a = b) := by
  show ((⟨a⟩ : Array UInt8) == ⟨b⟩) = _
  rw [Bool.eq_iff_iff, beq_iff_eq]
  simp
theorem findNow_str (s : List UInt8) : ∀ (ks : List (List UInt8)) (i : Nat), Instr.findNow .string (.string ⟨⟨s⟩⟩) ((ks.map fun t => (Value.string ⟨⟨t⟩⟩)).map fun x => ⟨x, .nilFunc, 0⟩) i = some ((placeOf s ks).map fun j => (i + j, .nilFunc))
  | [], i => rfl
  | t :: ts, i => by
    simp only [List.map_cons, Instr.findNow, Instr.sameNow, bytes_beq]
    by_cases h : s = t
    · subst h; simp [placeOf]
    · have h' : ¬ t = s := fun e => h e.symm
      simp only [h, decide_false]
      rw [findNow_str s ts (i + 1)]
      simp only [placeOf, if_neg h', Option.map_map]
      congr 1
      cases placeOf s ts with
      | none => rfl
      | some j => simp; omega
theorem pureRun_underlying {P : Program} {t : TypeId} {d : TypeDesc} (hk : P.underlying t = some d) : pureRun P (Go.underlying t) = some d :=
  pureRun_bind_mk (q := P) rfl (by simp only [hk]; rfl)
theorem findEv_str {P : Program} {key : TypeId} (hk : P.underlying key = some .string) (s : List UInt8) (es : List AEntry) (ks : List (List UInt8)) (he : es.map (·.key) = ks.map AV.str) : findEv P key (.str s) es = some (placeOf s ks) := by
  have hm : es.mapM (fun e => conc e.key) = some (ks.map fun t => (Value.string ⟨⟨t⟩⟩)) := by
    have : es.mapM (fun e => conc e.key) = (es.map (·.key)).mapM conc := by rw [List.mapM_map]; rfl
    rw [this, he]
    clear this he
    induction ks with
    | nil => rfl
    | cons t ts ih => simp only [List.map_cons, List.mapM_cons, ih]; rfl
  have hc : ∀ e, pureRun P (Instr.checkKey e 10000 key (.string ⟨⟨s⟩⟩)) = some () := fun e => pureRun_bind_mk (pureRun_underlying hk) rfl
  have hf : pureRun P (Instr.findKey key (.string ⟨⟨s⟩⟩) ((ks.map fun t => (Value.string ⟨⟨t⟩⟩)).map fun x => ⟨x, .nilFunc, 0⟩)) = some ((placeOf s ks).map fun j => (0 + j, .nilFunc)) :=
    pureRun_bind_mk (pureRun_underlying hk) (by rw [findNow_str]; rfl)
  have h0 : conc (.str s) = some (.string ⟨⟨s⟩⟩) := rfl
  unfold findEv
  rw [h0, hm]
  dsimp only
  rw [hc, hc]
  dsimp only
  rw [hf]
  cases placeOf s ks with
  | none => rfl
  | some j => simp
theorem Rel.pushObj {base : World} {ρ : Ren} {H : AH} {w : World} (h : Rel base ρ H w) (p : Slot) (o : AO) (hok : okO (ρ ++ [p]) w p o) (hb : base.heap.size ≤ p.blk) (hnew : ∀ (j : Nat) u q, H[j]? = some u → ρ[j]? = some q → u.live = true → q.blk ≠ p.blk) : Rel base (ρ ++ [p]) (H ++ [o]) w := by
  have hlen := h.len
  have hcase : ∀ (i : Nat) u q, (H ++ [o])[i]? = some u → (ρ ++ [p])[i]? = some q → (H[i]? = some u ∧ ρ[i]? = some q ∧ i < H.length) ∨ (i = H.length ∧ u = o ∧ q = p) := by
    intro i u q hu hq
    by_cases hi : i < H.length
    · rw [List.getElem?_append_left hi] at hu
      rw [List.getElem?_append_left (by omega)] at hq
      exact .inl ⟨hu, hq, hi⟩
    · have hi2 : i = H.length := by
        have := (List.getElem?_eq_some_iff.1 hu).1
        simp at this; omega
      subst hi2
      rw [List.getElem?_append_right (Nat.le_refl _)] at hu
      rw [List.getElem?_append_right (by omega)] at hq
      simp [hlen] at hu hq
      exact .inr ⟨rfl, hu.symm, hq.symm⟩
  refine ⟨h.below, by simp [hlen], fun i u q h1 h2 => ?_, fun i u q h1 h2 hl => ?_, fun i j u v q r hij h1 h2 h3 h4 l1 l2 => ?_⟩
  · rcases hcase i u q h1 h2 with ⟨a, b, _⟩ | ⟨_, rfl, rfl⟩
    · exact okO_ext (Ext.mk _ _) (h.obj i u q a b)
    · exact hok
  · rcases hcase i u q h1 h2 with ⟨a, b, _⟩ | ⟨_, rfl, rfl⟩
    · exact h.blk i u q a b hl
    · exact hb
  · rcases hcase i u q h1 h3 with ⟨a, b, _⟩ | ⟨e1, rfl, rfl⟩
    · rcases hcase j v r h2 h4 with ⟨c, d, _⟩ | ⟨_, rfl, rfl⟩
      · exact h.inj i j u v q r hij a c b d l1 l2
      · exact hnew i u q a b l1
    · rcases hcase j v r h2 h4 with ⟨c, d, _⟩ | ⟨e2, rfl, rfl⟩
      · exact fun e => hnew j v r c d l2 e.symm
      · exact absurd (e1.trans e2.symm) hij
/-- A map of plain entries that a call makes: what else it has made is forgotten. -/
theorem ACalls.mapAnywhere {P : Program} {R : Ro} {f : FuncId} {args : List AV} {i : Nat} {es : List AEntry} {ck : Nat} (ha : (renL [] args).isSome = true) (hes : (renE [] es).isSome = true)
    (h : ACalls P R f args [] fun v H1 => v = .map i ∧ H1[i]? = some (.map es ck)) (H : AH) : ACalls P R f args H fun v H' => v = .map H.length ∧ H' = H ++ [.map es ck] := by
  intro base hR ρ w Vs hrel hV
  obtain ⟨Vs', hVs⟩ := Option.isSome_iff_exists.1 ha
  obtain ⟨X, hX⟩ := Option.isSome_iff_exists.1 hes
  have hx : Ext [] ρ := ⟨ρ, by simp⟩
  have e1 := renL_ext hx hVs
  rw [hV] at e1; cases e1
  refine (h w (hR.later hrel.below) [] w Vs (rel_start w) hVs).mono ?_
  rintro e w' ⟨v, V, ρ1, H1, rfl, _, hr, hv, rfl, hg⟩
  obtain ⟨p, hp⟩ := hr.slot hg
  obtain ⟨E, b1, b2⟩ := hr.obj i _ p hg hp
  have b3 := renE_ext (ρ' := ρ1) ⟨ρ1, by simp⟩ hX
  rw [b2] at b3; cases b3
  have hfr := hr.blk i _ p hg hp rfl
  have hl := hrel.later hr.below
  simp only [ren, hp, Option.map_some, Option.some.injEq] at hv
  subst hv
  refine ⟨.map H.length, _, ρ ++ [p], H ++ [.map es ck], rfl, Ext.mk _ _, hl.pushObj p (.map es ck) (show okO _ _ _ (.map es ck) from ⟨E, b1, renE_ext ⟨ρ ++ [p], by simp⟩ hX⟩) (Nat.le_trans hrel.below.size hfr) ?_, ?_, rfl, rfl⟩
  · intro j u q hj hq hlv
    have := okO_lt (hrel.obj j u q hj hq) hlv
    omega
  · simp [ren, ← hrel.len]

noncomputable section
/-- Texts compared byte by byte. -/
def eqU (a : List UInt8) : List UInt8 → Bool := List.rec (motive := fun _ => List UInt8 → Bool) (fun b => List.casesOn (motive := fun _ => Bool) b true fun _ _ => false)
  (fun x _ ih b => List.casesOn (motive := fun _ => Bool) b false fun y ys => chk (Nat.beq x.toNat y.toNat) (ih ys)) a
theorem eqU_iff : ∀ (a b : List UInt8), eqU a b = true ↔ a = b
  | [], [] => by simp [eqU]
  | [], y :: ys => by simp [eqU]
  | x :: xs, [] => by simp [eqU]
  | x :: xs, y :: ys => by
    show chk (Nat.beq x.toNat y.toNat) (eqU xs ys) = true ↔ _
    constructor
    · intro h
      obtain ⟨h1, h2⟩ := chk_ok h
      have h1 := Nat.eq_of_beq_eq_true h1
      rw [(eqU_iff xs ys).1 h2, UInt8.toNat.inj h1]
    · intro h
      cases h
      have h1 : Nat.beq x.toNat x.toNat = true := Nat.beq_refl _
      have h2 := (eqU_iff xs xs).2 rfl
      show chk (Nat.beq x.toNat x.toNat) (eqU xs xs) = true
      rw [h1, h2]; rfl
abbrev Table := List (List UInt8 × List UInt8)
def lookP (s : List UInt8) : Table → Option (List UInt8)
  | [] => none
  | p :: tb => if p.1 = s then some p.2 else lookP s tb
def findP (s : List UInt8) (tb : Table) (k : List UInt8 → Bool) (d : Bool) : Bool := List.rec (motive := fun _ => Bool) d (fun p _ ih => Bool.casesOn (motive := fun _ => Bool) (eqU p.1 s) ih (k p.2)) tb
theorem findP_eq (s : List UInt8) (k : List UInt8 → Bool) (d : Bool) : ∀ tb, findP s tb k d = match lookP s tb with | some f => k f | none => d
  | [] => rfl
  | p :: tb => by
    show Bool.casesOn (motive := fun _ => Bool) (eqU p.1 s) (findP s tb k d) (k p.2) = _
    by_cases h : p.1 = s
    · rw [(eqU_iff _ _).2 h]; simp [lookP, h]
    · have : eqU p.1 s = false := by cases he : eqU p.1 s with
        | false => rfl
        | true => exact absurd ((eqU_iff _ _).1 he) h
      rw [this]
      simp only [lookP, if_neg h]
      exact findP_eq s k d tb
def entriesOf : Table → Nat → List AEntry
  | [], _ => []
  | p :: tb, n => ⟨.str p.1, .str p.2, n⟩ :: entriesOf tb (n + 1)
theorem entriesOf_keys : ∀ (tb : Table) (n : Nat), (entriesOf tb n).map (·.key) = (tb.map (·.1)).map AV.str
  | [], _ => rfl
  | p :: tb, n => by simp [entriesOf, entriesOf_keys tb]
theorem lookP_place (s : List UInt8) : ∀ (tb : Table) (n : Nat), (placeOf s (tb.map (·.1)) = none ∧ lookP s tb = none) ∨ ∃ j f k b, placeOf s (tb.map (·.1)) = some j ∧ lookP s tb = some f ∧ (entriesOf tb n)[j]? = some ⟨k, .str f, b⟩
  | [], _ => .inl ⟨rfl, rfl⟩
  | p :: tb, n => by
    by_cases h : p.1 = s
    · exact .inr ⟨0, p.2, .str p.1, n, by simp [placeOf, h], by simp [lookP, h], rfl⟩
    · rcases lookP_place s tb (n + 1) with ⟨h1, h2⟩ | ⟨j, f, k, b, h1, h2, h3⟩
      · exact .inl ⟨by simp only [List.map_cons, placeOf, if_neg h, h1]; rfl, by simp only [lookP, if_neg h, h2]⟩
      · exact .inr ⟨j + 1, f, k, b, by simp only [List.map_cons, placeOf, if_neg h, h1]; rfl, by simp only [lookP, if_neg h, h2], by simpa [entriesOf] using h3⟩
theorem entriesOf_ren : ∀ (tb : Table) (n : Nat), (renE [] (entriesOf tb n)).isSome = true
  | [], _ => rfl
  | p :: tb, n => by
    obtain ⟨X, hX⟩ := Option.isSome_iff_exists.1 (entriesOf_ren tb (n + 1))
    rw [entriesOf, renE_cons_mk (k := .string ⟨⟨p.1⟩⟩) (v := .string ⟨⟨p.2⟩⟩) rfl rfl hX]; rfl
def beqEs (a : List AEntry) : List AEntry → Bool := List.rec (motive := fun _ => List AEntry → Bool) (fun b => List.casesOn (motive := fun _ => Bool) b true fun _ _ => false)
  (fun x _ ih b => List.casesOn (motive := fun _ => Bool) b false fun y ys => chk (beqAV x.key y.key) (chk (beqAV x.val y.val) (chk (Nat.beq x.born y.born) (ih ys)))) a
theorem beqEs_eq : ∀ {a b : List AEntry}, beqEs a b = true → a = b
  | [], [], _ => rfl
  | [], _ :: _, h => by cases h
  | _ :: _, [], h => by cases h
  | x :: xs, y :: ys, h => by
    obtain ⟨h1, h⟩ := chk_ok (show chk (beqAV x.key y.key) (chk (beqAV x.val y.val) (chk (Nat.beq x.born y.born) (beqEs xs ys))) = true from h)
    obtain ⟨h2, h⟩ := chk_ok h
    obtain ⟨h3, h⟩ := chk_ok h
    rw [beqEs_eq h]
    obtain ⟨k, v, b⟩ := x
    obtain ⟨k', v', b'⟩ := y
    rw [show k = k' from beqAV_eq h1, show v = v' from beqAV_eq h2, show b = b' from Nat.eq_of_beq_eq_true h3]
/-- Is the answer this map? -/
def isMapOf (i : Nat) (es : List AEntry) (ck : Nat) (v : AV) (h : HT) (_ : Nat) : Bool := match v with
  | .map j => chk (Nat.beq j i) (match gH h j with
    | .map es' ck' => chk (Nat.beq ck' ck) (beqEs es' es)
    | _ => false)
  | _ => false
theorem isMapOf_ok {i : Nat} {es : List AEntry} {ck : Nat} {v : AV} {h : HT} {n : Nat} {H : AH} (s : Sim h n H) (hk : isMapOf i es ck v h n = true) : v = .map i ∧ H[i]? = some (.map es ck) := by
  unfold isMapOf at hk
  split at hk
  · rename_i j
    obtain ⟨h1, hk⟩ := chk_ok hk
    have h1 := Nat.eq_of_beq_eq_true h1
    split at hk
    · rename_i es' ck' ho
      obtain ⟨h2, hk⟩ := chk_ok hk
      have h2 := Nat.eq_of_beq_eq_true h2
      have h3 := beqEs_eq hk
      have := s.at ho rfl
      rw [← h1, ← h2, ← h3]
      exact ⟨rfl, this.2⟩
    · cases hk
  · cases hk
def ctrLook (tb : Table) : Ctr := fun _ args h n k => match args with
  | [.str s] => findP s tb (fun f => k (.tuple [.str f, .bool true]) h n) (k (.tuple [.str [], .bool false]) h n)
  | _ => false
def lookV (tb : Table) (s : List UInt8) : AV := match lookP s tb with
  | some f => .tuple [.str f, .bool true]
  | none => .tuple [.str [], .bool false]
theorem ctrLook_ok {P : Program} {R : Ro} {f : Nat} {tb : Table} (hf : ∀ s H, ACalls P R f [.str s] H fun v H' => v = lookV tb s ∧ H' = H) : CtrOk P R f (ctrLook tb) := by
  intro m _ _ args h n k H s hk
  unfold ctrLook at hk
  split at hk
  · rename_i t
    rw [findP_eq] at hk
    refine CtrOk.done s ?_ (hf t H)
    unfold lookV
    split at hk
    · exact hk
    · exact hk
  · cases hk
end
end Am
namespace Am
open Go Go.RowKit
/-- A row of plain cells that a call makes: what else it has made is forgotten. -/
theorem ACalls.rowAnywhere {P : Program} {R : Ro} {f : FuncId} {args : List AV} {i len : Nat} {c : List AV} {t sz : Nat} (ha : (renL [] args).isSome = true) (hc : (renL [] c).isSome = true)
    (h : ACalls P R f args [] fun v H1 => v = .slice (.mu i) 0 len (.opn 0) ∧ H1[i]? = some (.row c t sz)) (H : AH) : ACalls P R f args H fun v H' => v = .slice (.mu H.length) 0 len (.opn 0) ∧ H' = H ++ [.row c t sz] := by
  intro base hR ρ w Vs hrel hV
  obtain ⟨Vs', hVs⟩ := Option.isSome_iff_exists.1 ha
  obtain ⟨X, hX⟩ := Option.isSome_iff_exists.1 hc
  have hx : Ext [] ρ := ⟨ρ, by simp⟩
  have e1 := renL_ext hx hVs
  rw [hV] at e1; cases e1
  refine (h w (hR.later hrel.below) [] w Vs (rel_start w) hVs).mono ?_
  rintro e w' ⟨v, V, ρ1, H1, rfl, _, hr, hv, rfl, hg⟩
  obtain ⟨p, hp⟩ := hr.slot hg
  obtain ⟨C, cs, b1, b2, b3⟩ := hr.obj i _ p hg hp
  have b4 := renL_ext (ρ' := ρ1) ⟨ρ1, by simp⟩ hX
  rw [b2] at b4; cases b4
  have hfr := hr.blk i _ p hg hp rfl
  have hl := hrel.later hr.below
  simp only [ren, Loc.addr, Cap.num, hp, Option.map_some, Option.some.injEq] at hv
  subst hv
  refine ⟨.slice (.mu H.length) 0 len (.opn 0), _, ρ ++ [p], H ++ [.row c t sz], rfl, Ext.mk _ _, hl.pushObj p (.row c t sz) (show okO _ _ _ (.row c t sz) from ⟨C, X, b1, renL_ext ⟨ρ ++ [p], by simp⟩ hX, b3⟩) (Nat.le_trans hrel.below.size hfr) ?_, ?_, rfl, rfl⟩
  · intro j u q hj hq hlv
    have := okO_lt (hrel.obj j u q hj hq) hlv
    omega
  · simp [ren, Loc.addr, Cap.num, ← hrel.len]
noncomputable section
def isRowOf (i len : Nat) (c : List AV) (t sz : Nat) (v : AV) (h : HT) (_ : Nat) : Bool := match v with
  | .slice (.mu j) 0 m (.opn 0) => chk (Nat.beq j i) (chk (Nat.beq m len) (match gH h j with
    | .row c' t' sz' => chk (Nat.beq t' t) (chk (Nat.beq sz' sz) (beqAVL c' c))
    | _ => false))
  | _ => false
theorem isRowOf_ok {i len : Nat} {c : List AV} {t sz : Nat} {v : AV} {h : HT} {n : Nat} {H : AH} (s : Sim h n H) (hk : isRowOf i len c t sz v h n = true) : v = .slice (.mu i) 0 len (.opn 0) ∧ H[i]? = some (.row c t sz) := by
  unfold isRowOf at hk
  split at hk
  · rename_i j m
    obtain ⟨h1, hk⟩ := chk_ok hk
    obtain ⟨h2, hk⟩ := chk_ok hk
    have h1 := Nat.eq_of_beq_eq_true h1
    have h2 := Nat.eq_of_beq_eq_true h2
    split at hk
    · rename_i c' t' sz' ho
      obtain ⟨h3, hk⟩ := chk_ok hk
      obtain ⟨h4, hk⟩ := chk_ok hk
      have h3 := Nat.eq_of_beq_eq_true h3
      have h4 := Nat.eq_of_beq_eq_true h4
      have h5 := beqAVL_eq hk
      have := s.at ho rfl
      rw [← h1, ← h2, ← h3, ← h4, ← h5]
      exact ⟨rfl, this.2⟩
    · cases hk
  · cases hk
/-- A body's rest, gone into with known temporaries. -/
def retK (res : List RX) (ex : Exit) (e : ET) (h : HT) (n : Nat) : Bool := match ex with
  | .normal | .ret => resK e h res fun vs => resVK vs fun v => goTrue v h n
  | _ => false
theorem retK_ok {R : Ro} {res : List RX} {ex : Exit} {env : Env} {H : AH} (h : PostT (retK res) ex env H) : QRet R res (fun v _ => v = .bool true) ex env H := by
  obtain ⟨e', h', n', rfl, s', hk'⟩ := h
  cases ex <;> first
    | (obtain ⟨vs, h2, hk'⟩ := resK_ok (R := R) s' hk'
       rw [resVK_eq] at hk'
       obtain ⟨b, hb, hk'⟩ := isBool_ok hk'
       simp only [QRet, h2]
       rw [hb, hk'])
    | cases hk'
theorem env0_tree (a : AV) : env0 [a] = envT (BT.set AV.undef .nil 0 a) := by
  funext t
  simp only [env0, envT, gE, BT.get_set, BT.get_nil]
  cases t with
  | zero => rfl
  | succ t => simp
theorem upd_tree (e : ET) (t : Nat) (v : AV) : (envT e).upd t v = envT (BT.set AV.undef e t v) := envT_put e t v
def AC.fst : AC → AC | .seq a _ => a | x => x
def AC.snd : AC → AC | .seq _ b => b | x => x
def ctrTrue : Ctr := fun _ args h n k => match args with
  | [] => k (.bool true) h n
  | _ => false
theorem ctrTrue_ok {P : Program} {R : Ro} {f : Nat} (hf : ∀ H, ACalls P R f [] H fun v H' => H' = H ∧ v = .bool true) : CtrOk P R f ctrTrue := by
  intro m _ _ args h n k H s hk
  unfold ctrTrue at hk
  split at hk
  · exact CtrOk.done s hk ((hf H).mono fun v H' ⟨a, b⟩ => ⟨b, a⟩)
  · cases hk
end
end Am
