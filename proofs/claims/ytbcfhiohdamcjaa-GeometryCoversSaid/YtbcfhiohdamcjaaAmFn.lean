/- Regions that draw their order. -/
import Derived.Test.YtbcfhiohdamcjaaAmWp
set_option linter.unusedSimpArgs false
set_option linter.unusedVariables false
set_option linter.unusedSectionVars false
set_option linter.unnecessarySimpa false
namespace Am
open Go Go.RowKit

section
variable (P : Program) (R : Ro)

structure Held where
  o : AOper
  env : Env
  v : AV

def readyA (l : List DOper) (done : List Nat) : List Nat :=
  (List.range l.length).filter fun i => !done.contains i && (match l[i]? with | some d => d.pre.all done.contains | none => false)

def firstQ (l : List DOper) (done : List Nat) (e : Env) : Option Nat :=
  (readyA l done).find? fun i => match l[i]? with
    | some d => match wantedA d.o e with
      | some false => true
      | some true => d.o.op.quiet
      | none => false
    | none => false

def effA (l : List DOper) (i : Nat) : Bool := match l[i]? with
  | some d => !d.o.op.quiet
  | none => true

def recheck (x : Held) (H : AH) : Prop := x.o.op.eval P R x.env H = some (x.v, H)

def execD (l : List DOper) (B : List Nat) (K : Env → AH → Prop) : Nat → List (Nat × Held) → List Nat → Env → AH → Prop
  | 0, _, done, e, H => readyA l done = [] ∧ K e H
  | fuel + 1, T, done, e, H => match firstQ l done e with
    | some i => match l[i]? with
      | some d => match wantedA d.o e with
        | some false => execD l B K fuel T (i :: done) (e.put d.o.dst AV.undef) H
        | some true => match d.o.op.eval P R e H with
          | some (v, _) => execD l B K fuel ((i, ⟨d.o, e, v⟩) :: T) (i :: done) (e.put d.o.dst v) H
          | none => False
        | none => False
      | none => False
    | none => (readyA l done = [] → K e H) ∧ ∀ i ∈ readyA l done, match l[i]? with
      | some d => wantedA d.o e = some true ∧ stepOp P R d.o (fun e' H' => (∀ x ∈ keepT (effA l) B T i, recheck P R x.2 H') ∧ execD l B K fuel (keepT (effA l) B T i) (i :: done) e' H') e H
      | none => False
end

section
variable {P : Program} {R : Ro} {nt : Nat} {ops : Array Oper} {l : List DOper} {B : List Nat} {K : Env → AH → Prop}

/-- What is held, and the world's side of it. -/
def HRel (P : Program) (ρ : Ren) (x : Nat × Held) (y : Nat × (World → Prop)) : Prop :=
  x.1 = y.1 ∧ ∃ (o : Oper) (a : Act) (V : Value), compOp P o.op = some x.2.o.op ∧ x.2.o.op.quiet = true ∧ EvOk ρ x.2.env a.eval ∧ ren ρ x.2.v = some V ∧ y.2 = fun w => (execOp a.eval o).run P w = .ok (.value V) w

theorem EvOk.ext {ρ ρ' : Ren} (h : Ext ρ ρ') {e : Env} {ev : Operand → Value} (he : EvOk ρ e ev) : EvOk ρ' e ev :=
  ⟨fun t => ren_ext h (he.tmp t), he.const, he.func, he.glob⟩

theorem HRel.ext {ρ ρ' : Ren} (h : Ext ρ ρ') {x : Nat × Held} {y : Nat × (World → Prop)} (hr : HRel P ρ x y) : HRel P ρ' x y := by
  obtain ⟨h1, o, a, V, h2, h3, h4, h5, h6⟩ := hr
  exact ⟨h1, o, a, V, h2, h3, h4.ext h, ren_ext h h5, h6⟩

inductive HRels (P : Program) (ρ : Ren) : List (Nat × Held) → List (Nat × (World → Prop)) → Prop
  | nil : HRels P ρ [] []
  | cons {x y T Tr} : HRel P ρ x y → HRels P ρ T Tr → HRels P ρ (x :: T) (y :: Tr)

theorem HRels.ext {ρ ρ' : Ren} (h : Ext ρ ρ') : ∀ {T Tr}, HRels P ρ T Tr → HRels P ρ' T Tr
  | _, _, .nil => .nil
  | _, _, .cons a b => .cons (a.ext h) (b.ext h)

theorem HRels.filter {ρ : Ren} (p : Nat → Bool) : ∀ {T Tr}, HRels P ρ T Tr → HRels P ρ (T.filter fun x => p x.1) (Tr.filter fun x => p x.1)
  | _, _, .nil => .nil
  | _, _, .cons (x := x) (y := y) a b => by
    have h := a.1
    simp only [List.filter_cons]
    rw [← h]
    split
    · exact .cons a (b.filter p)
    · exact b.filter p

theorem HRels.keep {ρ : Ren} {eff : Nat → Bool} {T Tr} (h : HRels P ρ T Tr) (i : Nat) : HRels P ρ (keepT eff B T i) (keepT eff B Tr i) := by
  unfold keepT
  split
  · exact h.filter fun k => indep B k i
  · exact h

theorem HRels.hold {base : World} (hR : ROk R base) {ρ : Ren} {H : AH} {w : World} (hrel : Rel base ρ H w) : ∀ {T Tr}, HRels P ρ T Tr → (∀ x ∈ T, recheck P R x.2 H) → ∀ y ∈ Tr, y.2 w
  | _, _, .nil, _, y, hy => by cases hy
  | _, _, .cons (x := x) (y := y') a b, h, y, hy => by
    rcases List.mem_cons.1 hy with rfl | hy
    · obtain ⟨_, o, ac, V, h2, h3, h4, h5, h6⟩ := a
      have hre := h x (List.mem_cons_self ..)
      obtain ⟨_, x', hrun, hx'⟩ := (op_sound hR hrel h4 h2 hre).2 h3
      rw [h6]
      rw [h5] at hx'
      cases hx'
      exact hrun
    · exact b.hold hR hrel (fun z hz => h z (List.mem_cons_of_mem _ hz)) y hy

/-- What has come up, told twice. -/
def Listed (ops : Array Oper) (listed : Array Bool) (done : List Nat) : Prop :=
  listed.size = ops.size ∧ ∀ j, j < ops.size → listed.getD j false = done.contains j

theorem listed_set {listed : Array Bool} {done : List Nat} (h : Listed ops listed done) (i : Nat) : Listed ops (listed.setIfInBounds i true) (i :: done) := by
  refine ⟨by simp [h.1], fun j hj => ?_⟩
  by_cases hij : i = j
  · subst hij
    have : i < listed.size := by rw [h.1]; exact hj
    simp [this]
  · rw [getD_set_ne false hij, h.2 j hj]
    simp [Ne.symm hij]

theorem range_filter_congr {n : Nat} {p q : Nat → Bool} (h : ∀ i, i < n → p i = q i) : (List.range n).filter p = (List.range n).filter q :=
  List.filter_congr fun i hi => h i (by simpa using hi)

theorem ready_eq (hl : opersC P ops nt ops.toList = some (l.map (·.o))) (hpre : l.map (·.pre) = ops.toList.map preC) (hb : boundPre ops = true) {listed : Array Bool} {done : List Nat} (h : Listed ops listed done) :
    Region.ready .any ops listed = readyA l done := by
  have hlen : l.length = ops.size := by have := opersC_length hl; simpa using this
  unfold Region.ready readyA
  rw [hlen]
  refine range_filter_congr fun i hi => ?_
  have h1 : listed.getD i true = done.contains i := by
    have := h.2 i hi
    have hs : i < listed.size := by rw [h.1]; exact hi
    simp [hs] at this ⊢; exact this
  have hli : l[i]? = some l[i] := by simp [hlen, hi]
  have hp : l[i].pre = preC ops[i] := by
    have := congrArg (fun z => z[i]?) hpre
    simp [hlen, hi] at this
    exact this
  rw [h1, hli, Array.getElem?_eq_getElem hi]
  simp only [Option.map_some, Option.getD_some, hp]
  congr 1
  unfold preC
  have hbi : ∀ e ∈ ops[i].after.toList, Region.binds .any e = true → e.on < ops.size := by
    intro e he hbd
    unfold boundPre at hb
    rw [List.all_eq_true] at hb
    have := hb (ops[i], i) (by
      rw [List.mem_zipIdx_iff_getElem?]
      simp [hi])
    simp only [List.all_eq_true] at this
    have := this e.on (by unfold preC; exact List.mem_map.2 ⟨e, List.mem_filter.2 ⟨he, hbd⟩, rfl⟩)
    simp at this; omega
  rw [Bool.eq_iff_iff, ← Array.all_toList, List.all_map, List.all_eq_true, List.all_eq_true]
  constructor
  · intro hh e he
    obtain ⟨he1, he2⟩ := List.mem_filter.1 he
    have := hh e he1
    simp only [he2, Bool.not_true, Bool.false_or] at this
    rw [h.2 _ (hbi e he1 he2)] at this
    exact this
  · intro hh e he
    cases hbd : Region.binds .any e with
    | false => rfl
    | true =>
      have := hh e (List.mem_filter.2 ⟨he, hbd⟩)
      simp only [Bool.not_true, Bool.false_or]
      rw [h.2 _ (hbi e he hbd)]
      exact this

theorem zip_maps {α β γ : Type} (f : β → γ) : ∀ (as : List α) (bs : List β), as.length = bs.length → ((as.zip bs).map fun x => x.1) = as ∧ ((as.zip bs).map fun x => f x.2) = bs.map f
  | [], [], _ => ⟨rfl, rfl⟩
  | a :: as, b :: bs, h => by
    obtain ⟨h1, h2⟩ := zip_maps f as bs (by simpa using h)
    simp [h1, h2]
  | [], _ :: _, h => by simp at h
  | _ :: _, [], h => by simp at h

theorem drawC_inv (h : drawC P ops nt = some (.draw l B)) : opersC P ops nt ops.toList = some (l.map (·.o)) ∧ l.map (·.pre) = ops.toList.map preC ∧ B = allBits ops.toList [] ∧ boundPre ops = true ∧ Region.noSelect ops = true ∧ freeC ops B = true := by
  unfold drawC at h
  dsimp only at h
  split at h
  · rename_i l' hl'
    split at h
    · rename_i hok
      cases h
      unfold drawOk at hok
      simp only [Bool.and_eq_true] at hok
      have hlen := opersC_length hl'
      obtain ⟨z1, z2⟩ := zip_maps preC l' ops.toList hlen
      refine ⟨?_, ?_, rfl, hok.1.1, hok.1.2, hok.2⟩
      · rw [List.map_map]
        rw [show ((fun x => x.o) ∘ fun x : AOper × Oper => (⟨x.1, preC x.2⟩ : DOper)) = fun x => x.1 from rfl, z1]
        exact hl'
      · rw [List.map_map]
        exact z2
    · cases h
  · cases h

/-! ### The bits -/
theorem allBits_len : ∀ (os : List Oper) (B : List Nat), (allBits os B).length = B.length + os.length
  | [], B => by simp [allBits]
  | o :: os, B => by simp only [allBits]; rw [allBits_len]; simp; omega

theorem allBits_old : ∀ (os : List Oper) (B : List Nat) (j : Nat), j < B.length → (allBits os B).getD j 0 = B.getD j 0
  | [], B, j, h => rfl
  | o :: os, B, j, h => by
    simp only [allBits]
    rw [allBits_old os _ j (by simp; omega)]
    simp [List.getElem?_append_left h]

theorem bitsC_test (B : List Nat) (k : Nat) : ∀ (pre : List Nat) (s : Nat), (pre.foldl (fun s k => s ||| 2 ^ k ||| B.getD k 0) s).testBit k = true → s.testBit k = true ∨ ∃ p ∈ pre, p = k ∨ (B.getD p 0).testBit k = true := by
  intro pre
  induction pre with
  | nil => intro s h; exact .inl h
  | cons p pre ih =>
    intro s h
    simp only [List.foldl_cons] at h
    rcases ih _ h with h | ⟨q, hq, h⟩
    · simp only [Nat.testBit_or, Bool.or_eq_true] at h
      rcases h with (h | h) | h
      · exact .inl h
      · right
        refine ⟨p, List.mem_cons_self .., .inl ?_⟩
        by_cases hpk : p = k
        · exact hpk
        · rw [Nat.testBit_two_pow_of_ne hpk] at h; cases h
      · exact .inr ⟨p, List.mem_cons_self .., .inr h⟩
    · exact .inr ⟨q, List.mem_cons_of_mem _ hq, h⟩

theorem bitsC_congr {B B' : List Nat} : ∀ (pre : List Nat) (s : Nat), (∀ p ∈ pre, B.getD p 0 = B'.getD p 0) → pre.foldl (fun s k => s ||| 2 ^ k ||| B.getD k 0) s = pre.foldl (fun s k => s ||| 2 ^ k ||| B'.getD k 0) s
  | [], s, h => rfl
  | p :: pre, s, h => by
    simp only [List.foldl_cons]
    rw [h p (List.mem_cons_self ..)]
    exact bitsC_congr pre _ fun q hq => h q (List.mem_cons_of_mem _ hq)

theorem allBits_new : ∀ (os : List Oper) (B : List Nat) (j : Nat) o, os[j]? = some o → (∀ (i : Nat) x, os[i]? = some x → ∀ p ∈ preC x, p < B.length + i) →
    (allBits os B).getD (B.length + j) 0 = bitsC (allBits os B) (preC o)
  | [], B, j, o, h, _ => by simp at h
  | x :: os, B, 0, o, h, hp => by
    simp at h; subst h
    simp only [allBits]
    have hx := hp 0 x rfl
    rw [Nat.add_zero, allBits_old os _ B.length (by simp)]
    have e1 : (B ++ [bitsC B (preC x)]).getD B.length 0 = bitsC B (preC x) := by simp
    rw [e1]
    unfold bitsC
    refine bitsC_congr _ _ fun p hpm => ?_
    have := hx p hpm
    rw [allBits_old os _ p (by simp; omega)]
    simp [List.getElem?_append_left (show p < B.length from by omega)]
  | x :: os, B, j + 1, o, h, hp => by
    simp only [List.getElem?_cons_succ] at h
    simp only [allBits]
    have := allBits_new os (B ++ [bitsC B (preC x)]) j o h (fun i y hy p hpm => by
      have := hp (i + 1) y (by simpa using hy) p hpm
      simp; omega)
    simp only [List.length_append, List.length_cons, List.length_nil] at this
    rw [show B.length + (j + 1) = B.length + (0 + 1) + j from by omega]
    exact this

theorem BOk_of (hB : B = allBits ops.toList []) (hb : boundPre ops = true) : BOk .any ops B := by
  intro i k hk
  have hbp : ∀ (i : Nat) x, ops.toList[i]? = some x → ∀ p ∈ preC x, p < i := by
    intro i x hx p hp
    unfold boundPre at hb
    rw [List.all_eq_true] at hb
    have := hb (x, i) (by rw [List.mem_zipIdx_iff_getElem?]; exact hx)
    simp only [List.all_eq_true] at this
    simpa using this p hp
  have hlen := allBits_len ops.toList []
  have hi : i < ops.size := by
    by_cases h : i < ops.size
    · exact h
    · exfalso
      have : B.getD i 0 = 0 := by
        rw [hB]
        simp only [List.getD_eq_getElem?_getD]
        rw [List.getElem?_eq_none (by rw [hlen]; simp; omega)]
        rfl
      rw [this] at hk; simp at hk
  have ho : ops.toList[i]? = some ops[i] := by simp [hi]
  have hnew := allBits_new ops.toList [] i ops[i] ho (fun j x hx p hp => by simpa using hbp j x hx p hp)
  simp only [List.length_nil, Nat.zero_add] at hnew
  rw [← hB] at hnew
  rw [hnew] at hk
  unfold bitsC at hk
  rcases bitsC_test B k _ 0 hk with h | ⟨p, hp, h⟩
  · simp at h
  · refine ⟨ops[i], by simp [hi], ?_⟩
    have hlt := hbp i ops[i] ho p hp
    unfold preC at hp
    obtain ⟨e, he, rfl⟩ := List.mem_map.1 hp
    obtain ⟨he1, he2⟩ := List.mem_filter.1 he
    exact ⟨e, by simpa using he1, he2, h, hlt⟩

theorem free_of (hf : freeC ops B = true) {i j : Nat} {x y : Oper} (hx : ops[i]? = some x) (hy : ops[j]? = some y) (hij : j ≠ i) (hw : ∀ e ∈ y.after, Region.binds .any e = true → e.on ≠ i) (hbit : (B.getD i 0).testBit j = false) : x.apart ops y = true := by
  unfold freeC at hf
  rw [List.all_eq_true] at hf
  have h1 := hf (x, i) (by rw [List.mem_zipIdx_iff_getElem?]; simpa using hx)
  simp only [List.all_eq_true] at h1
  have h2 := h1 (y, j) (by rw [List.mem_zipIdx_iff_getElem?]; simpa using hy)
  simp only [Bool.or_eq_true] at h2
  rcases h2 with ((h2 | h2) | h2) | h2
  · simp at h2; exact absurd h2.symm hij
  · exfalso
    have : i ∈ preC y := by simpa using h2
    unfold preC at this
    obtain ⟨e, he, rfl⟩ := List.mem_map.1 this
    obtain ⟨he1, he2⟩ := List.mem_filter.1 he
    exact hw e (by simpa using he1) he2 rfl
  · rw [hbit] at h2; cases h2
  · exact h2

theorem execD_sound {base : World} (hR : ROk R base) (hd : drawC P ops nt = some (.draw l B)) {Q : Exit → Act → World → Prop} {ρ0 : Ren} (hQ : ∀ ρ e H a w, Ext ρ0 ρ → St base ρ e H a w nt → K e H → Q .normal a w) (hQp : ∀ c a w, Q (.panic c) a w → False) :
    ∀ (fuel : Nat) (T : List (Nat × Held)) (done : List Nat) (e : Env) (H : AH), execD P R l B K fuel T done e H → ∀ (ρ : Ren) (a : Act) (w : World) (listed : Array Bool) (Tr : List (Nat × (World → Prop))), Ext ρ0 ρ → St base ρ e H a w nt → HRels P ρ T Tr →
      (∀ y ∈ Tr, y.2 w) → Closed .any ops listed → Listed ops listed done → wpAnyX P .any ops Q (effA l) B fuel Tr listed a w := by
  obtain ⟨hl, hpre, hB, hbp, hns, hfree⟩ := drawC_inv hd
  have hBok := BOk_of hB hbp
  have hlen : l.length = ops.size := by have := opersC_length hl; simpa using this
  have hget : ∀ (i : Nat) (d : DOper), l[i]? = some d → ∃ o, ops[i]? = some o ∧ operC P ops nt o = some d.o := by
    intro i d hi
    have hlt := (List.getElem?_eq_some_iff.1 hi).1
    have ho : ops.toList[i]? = some (ops[i]'(by omega)) := by simp [show i < ops.size from by omega]
    obtain ⟨ao, h1, h2⟩ := opersC_get hl i _ ho
    rw [List.getElem?_map, hi] at h1
    simp at h1
    exact ⟨_, Array.getElem?_eq_getElem (by omega), by rw [h1]; exact h2⟩
  intro fuel
  induction fuel with
  | zero =>
    intro T done e H hk ρ a w listed Tr hx hs hT hhold hcl hli
    exact ⟨by rw [ready_eq hl hpre hbp hli]; exact hk.1, hQ ρ e H a w hx hs hk.2⟩
  | succ fuel ih =>
    intro T done e H hk ρ a w listed Tr hx hs hT hhold hcl hli
    have hready := ready_eq hl hpre hbp hli
    simp only [execD] at hk
    split at hk
    · -- an operation is taken first
      rename_i i hfirst
      have hir := List.mem_of_find?_eq_some hfirst
      have hip := List.find?_some hfirst
      have hir' : i ∈ Region.ready .any ops listed := by rw [hready]; exact hir
      split at hk
      · rename_i d hdi
        obtain ⟨o, ho, hc⟩ := hget i d hdi
        obtain ⟨hco, hg, hdd, hdst⟩ := operC_inv hc
        have hfr : ∀ j oj, ops[j]? = some oj → j ≠ i → listed.getD j true = false → (∀ e ∈ oj.after, Region.binds .any e = true → e.on ≠ i) → o.apart ops oj = true := by
          intro j oj hj hji hun hw
          refine free_of hfree ho hj hji hw ?_
          have := indep_of_ready hBok hcl hir' (getD_true_false hun)
          unfold indep at this
          simpa using this
        split at hk
        · rename_i hw
          refine wpAnyX_first (S := fun _ => True) (v := Go.undef) hBok ho (Region.noSelect_spec hns) (fun c a w h => (hQp _ _ _ h).elim) fuel Tr listed a w hcl hfr hir' (.inr ⟨wanted_sound hs hc hw, rfl⟩) trivial hhold ?_
          rw [hdst] at hk
          have hs' := hs.put hs.rel (Ext.refl _) hdd (v := AV.undef) (x := Go.undef) rfl
          exact wpAnyX_true i fuel _ _ _ _ (ih T (i :: done) _ H hk ρ _ w (listed.setIfInBounds i true) Tr hx hs' hT hhold (closed_set hcl hir') (listed_set hli i))
        · rename_i hw
          split at hk
          · rename_i v H' hev
            have hq : d.o.op.quiet = true := by
              simp only [hdi, hw] at hip
              exact hip
            obtain ⟨rfl, x, hrun, hxv⟩ := (op_sound hR hs.rel hs.ev (op_of_eval hco hev) hev).2 hq
            refine wpAnyX_first (S := fun w => (execOp a.eval o).run P w = .ok (.value x) w) (v := x) hBok ho (Region.noSelect_spec hns) (fun c a w h => (hQp _ _ _ h).elim) fuel Tr listed a w hcl hfr hir' (.inl ⟨wanted_sound hs hc hw, fun w h => h⟩) hrun hhold ?_
            rw [hdst] at hk
            refine ih _ _ _ _ hk ρ _ w _ _ hx (hs.put hs.rel (Ext.refl _) hdd hxv) (.cons ⟨rfl, o, a, x, op_of_eval hco hev, hq, hs.ev, hxv, rfl⟩ hT) ?_ (closed_set hcl hir') (listed_set hli i)
            intro y hy
            rcases List.mem_cons.1 hy with rfl | hy
            · exact hrun
            · exact hhold y hy
          · exact hk.elim
        · exact hk.elim
      · exact hk.elim
    · -- whichever comes up
      rename_i hnone
      obtain ⟨hk0, hk1⟩ := hk
      refine ⟨fun h0 => hQ ρ e H a w hx hs (hk0 (by rw [← hready]; exact h0)), fun i hi => ?_⟩
      have hir : i ∈ readyA l done := by rw [← hready]; exact hi
      have hki := hk1 i hir
      split at hki
      · rename_i d hdi
        obtain ⟨hw, hstep⟩ := hki
        obtain ⟨o, ho, hc⟩ := hget i d hdi
        unfold wpOp
        rw [ho]
        dsimp only
        rw [if_pos (wanted_sound hs hc hw)]
        left
        refine Oper.wp_mono (fun a' w' hh => ?_) (step_sound (Q := Q) hR hs hc hstep)
        obtain ⟨ρ', e', H', hx', hs', hre, hk'⟩ := hh
        have hT' := (hT.ext hx').keep (B := B) (eff := effA l) i
        have hhold' := hT'.hold hR hs'.rel hre
        exact ⟨hhold', ih _ _ _ _ hk' ρ' a' w' _ _ (hx.trans hx') hs' hT' hhold' (closed_set hcl hi) (listed_set hli i)⟩
      · exact hki.elim

theorem AWp.draw {Q : Exit → Env → AH → Prop} {env : Env} {H : AH} (hm : P.follows .mixedOrders = true) (h : execD P R l B (fun e H => Q .normal e H) l.length [] [] env H) : AWp P R nt (.draw l B) Q env H := by
  intro c hc base hR ρ a w hs
  obtain ⟨id, ops, rfl, hd⟩ := compC_inv hc
  have hlen : l.length = ops.size := by
    obtain ⟨hl, _⟩ := drawC_inv hd
    have := opersC_length hl; simpa using this
  refine wp_region_X (eff := effA l) (B := B) hm ?_
  rw [← hlen]
  refine execD_sound hR hd (Q := AQ Q base ρ nt) (ρ0 := ρ) (fun ρ' e' H' a' w' hx hs' hk => ⟨ρ', e', H', hx, hs', hk⟩) (fun _ _ _ h => h) l.length [] [] env H h ρ a _ _ [] (Ext.refl _) (hs.ext _) .nil (fun y hy => by cases hy) ?_ ?_
  · intro j o hj hl e he hb
    rw [hlen] at hl
    simp only [Array.getD_eq_getD_getElem?, Array.getElem?_replicate] at hl
    split at hl <;> simp at hl
  · refine ⟨by simp [hlen], fun j hj => ?_⟩
    simp [hlen, hj]
end
end Am
namespace Am
open Go Go.RowKit

inductive RX where
  | tmp (t : Nat)
  | cell (t : Nat) (n : Option Nat)

structure AFn where
  nt : Nat
  res : List RX
  body : AC

section
variable (P : Program)
def resC1 : ResultVar → Option RX
  | .tmp t => some (.tmp t)
  | .cell a t => match aggC P t with
    | some true => (sizeC P t).map fun n => .cell a (some n)
    | some false => some (.cell a none)
    | none => none
def resC : List ResultVar → Option (List RX)
  | [] => some []
  | r :: rs => match resC1 P r, resC rs with
    | some x, some l => some (x :: l)
    | _, _ => none

def FnOk (f : FuncId) (af : AFn) : Prop := ∃ fn c, P.funcs[f]? = some fn ∧ fn.body = some c ∧ fn.ntmps = af.nt ∧ compC P af.nt c = some af.body ∧ resC P fn.results.toList = some af.res

/-- The same as a program's question. -/
def fnC (fn : Func) : Option AFn := match fn.body with
  | some c => match compC P fn.ntmps c, resC P fn.results.toList with
    | some b, some r => some ⟨fn.ntmps, r, b⟩
    | _, _ => none
  | none => none

theorem FnOk.of {f : FuncId} {fn : Func} {af : AFn} (hf : P.funcs[f]? = some fn) (h : fnC P fn = some af) : FnOk P f af := by
  unfold fnC at h
  split at h
  · split at h
    · cases h; exact ⟨fn, _, hf, ‹_›, rfl, ‹_›, ‹_›⟩
    · cases h
  · cases h
end

def resE1 (R : Ro) (e : Env) (H : AH) : RX → Option AV
  | .tmp t => some (e t)
  | .cell t n => match e t with
    | .ptr l off => match n with
      | none => read1 R H l off
      | some n => (readN R H n l off).map .agg
    | _ => none
def resE (R : Ro) (e : Env) (H : AH) : List RX → Option (List AV)
  | [] => some []
  | r :: rs => match resE1 R e H r, resE R e H rs with
    | some v, some l => some (v :: l)
    | _, _ => none

def resV : List AV → AV
  | [v] => v
  | vs => .tuple vs

def env0 (args : List AV) : Env := fun t => args.getD t AV.undef

/-- What a body must come to. -/
def QRet (R : Ro) (res : List RX) (K : AV → AH → Prop) : Exit → Env → AH → Prop := fun ex e H =>
  match ex with
  | .normal | .ret => match resE R e H res with
    | some vs => K (resV vs) H
    | none => False
  | _ => False

section
variable {P : Program} {R : Ro}

def resF (a : Act) : ResultVar → Sem Value
  | .tmp t => pure (a.tmps.getD t Go.undef)
  | .cell a' t => do loadVar t (← asAddr (a.tmps.getD a' Go.undef))

theorem res1_sound {base : World} (hR : ROk R base) {ρ : Ren} {e : Env} {H : AH} {a : Act} {w : World} {nt : Nat} (hs : St base ρ e H a w nt) {r : ResultVar} {x : RX} (hc : resC1 P r = some x) {v : AV} (hv : resE1 R e H x = some v) :
    ∃ V, ren ρ v = some V ∧ (resF a r).run P w = .ok V w := by
  cases r with
  | tmp t =>
    simp only [resC1, Option.some.injEq] at hc
    subst hc
    simp only [resE1, Option.some.injEq] at hv
    subst hv
    exact ⟨_, hs.val t, rfl⟩
  | cell a' t =>
    have key : ∀ (n : Option Nat) (b : Bool), aggC P t = some b → ((b = true ∧ ∃ m, n = some m ∧ sizeC P t = some m) ∨ (b = false ∧ n = none)) → resE1 R e H (.cell a' n) = some v →
        ∃ V, ren ρ v = some V ∧ (do loadVar t (← asAddr (a.tmps.getD a' Go.undef)) : Sem Value).run P w = .ok V w := by
      intro n b hb hn hv
      simp only [resE1] at hv
      split at hv
      · rename_i l off hx
        have h1 := hs.val a'
        rw [hx] at h1
        obtain ⟨A, hA, h1⟩ := ren_ptr h1
        rw [h1]
        rcases hn with ⟨rfl, m, rfl, hm⟩ | ⟨rfl, rfl⟩
        · simp only [Option.map_eq_some_iff] at hv
          obtain ⟨vs, hvs, rfl⟩ := hv
          obtain ⟨V, hV, hlen, hrun⟩ := readN_sound hR hs.rel hvs hA
          refine ⟨.agg V.toArray, by simp [ren, hV], ?_⟩
          simp [asAddr, loadVar, aggC_ok hb, sizeC_ok hm, loadCells, hrun]
        · obtain ⟨x, hx, hcell⟩ := read1_sound hR hs.rel hv hA
          exact ⟨x, hx, by simp [asAddr, loadVar, aggC_ok hb, hcell]⟩
      · cases hv
    simp only [resC1] at hc
    split at hc
    · simp only [Option.map_eq_some_iff] at hc
      obtain ⟨n, hn, rfl⟩ := hc
      exact key (some n) true ‹_› (.inl ⟨rfl, n, rfl, hn⟩) hv
    · cases hc
      exact key none false ‹_› (.inr ⟨rfl, rfl⟩) hv
    · cases hc

theorem res_sound {base : World} (hR : ROk R base) {ρ : Ren} {e : Env} {H : AH} {a : Act} {w : World} {nt : Nat} (hs : St base ρ e H a w nt) : ∀ {rs : List ResultVar} {xs : List RX}, resC P rs = some xs → ∀ {vs : List AV}, resE R e H xs = some vs →
    ∃ Vs, renL ρ vs = some Vs ∧ (rs.mapM (resF a)).run P w = .ok Vs w
  | [], xs, hc, vs, hv => by
    simp only [resC, Option.some.injEq] at hc
    subst hc
    simp only [resE, Option.some.injEq] at hv
    subst hv
    exact ⟨[], rfl, by simp⟩
  | r :: rs, xs, hc, vs, hv => by
    simp only [resC] at hc
    split at hc
    · rename_i x l hx hl
      cases hc
      simp only [resE] at hv
      split at hv
      · rename_i v vl hv1 hvl
        cases hv
        obtain ⟨V, h1, h2⟩ := res1_sound hR hs hx hv1
        obtain ⟨Vs, h3, h4⟩ := res_sound hR hs hl hvl
        refine ⟨V :: Vs, renL_cons_mk h1 h3, ?_⟩
        simp only [List.mapM_cons, Sem.run_bind]
        rw [h2]
        simp only [Result.andThen_ok]
        rw [h4]
        rfl
      · cases hv
    · cases hc

theorem results_sound {base : World} (hR : ROk R base) {ρ : Ren} {e : Env} {H : AH} {a : Act} {w : World} {nt : Nat} (hs : St base ρ e H a w nt) {fn : Func} {xs : List RX} (hc : resC P fn.results.toList = some xs) {vs : List AV} (hv : resE R e H xs = some vs) :
    ∃ V, ren ρ (resV vs) = some V ∧ (results fn a.tmps).run P w = .ok V w := by
  obtain ⟨Vs, h1, h2⟩ := res_sound hR hs hc hv
  have hlen := renL_length h1
  refine ⟨if h : Vs.toArray.size = 1 then Vs.toArray[0] else .tuple Vs.toArray, ?_, ?_⟩
  · match vs, h1, hlen with
    | [v], h1, hlen =>
      obtain ⟨x, xs', e1, e2, rfl⟩ := renL_cons h1
      obtain rfl := renL_nil e2
      simpa [resV] using e1
    | [], h1, hlen =>
      obtain rfl := renL_nil h1
      simp [resV, ren, renL]
    | a :: b :: l, h1, hlen =>
      rw [dif_neg (by simp [hlen])]
      simp [resV, ren, h1]
  · have h3 : (fn.results.mapM (resF a)).run P w = .ok Vs.toArray w := by
      rw [← Array.toArray_toList (xs := fn.results), List.mapM_toArray, Sem.run_map, h2]
      rfl
    have h4 : results fn a.tmps = (do let vs ← fn.results.mapM (resF a); pure (if h : vs.size = 1 then vs[0] else .tuple vs) : Sem Value) := by
      unfold results
      congr 1
    rw [h4, Sem.run_bind, h3]
    rfl

theorem ACalls.of_body {f : FuncId} {af : AFn} (hf : FnOk P f af) {args : List AV} (hn : args.length ≤ af.nt) {H : AH} {K : AV → AH → Prop} (h : AWp P R af.nt af.body (QRet R af.res K) (env0 args) H) : ACalls P R f args H K := by
  intro base hR ρ w Vs hrel hV
  obtain ⟨fn, c, h1, h2, h3, h4, h5⟩ := hf
  have hlen := renL_length hV
  refine calls_of_wp h1 h2 (wp_mono (h c h4 base hR ρ { tmps := Vs.toArray ++ Array.replicate (fn.ntmps - Vs.toArray.size) Go.undef, defers := [] } w ⟨hrel, ?_, fun t => ?_, rfl⟩) ?_)
  · simp; omega
  · simp only [env0]
    by_cases ht : t < args.length
    · obtain ⟨x, hx, hr⟩ := renL_getElem? hV t args[t] (List.getElem?_eq_getElem ht)
      have : args.getD t AV.undef = args[t] := by simp [ht]
      rw [this, hr]
      congr 1
      have hlt : t < Vs.length := by omega
      rw [List.getElem?_eq_getElem hlt] at hx
      simp only [Array.getD_eq_getD_getElem?]
      rw [Array.getElem?_append_left (by simpa using hlt)]
      simp [hlt] at hx ⊢
      exact hx.symm
    · have : args.getD t AV.undef = AV.undef := by simp [Nat.le_of_not_lt ht]
      rw [this]
      simp only [Array.getD_eq_getD_getElem?]
      rw [Array.getElem?_append_right (by simp; omega)]
      simp only [Array.getElem?_replicate]
      split <;> rfl
  · intro ex a1 w1 hh
    have key : (∃ ρ' env H, Ext ρ ρ' ∧ St base ρ' env H a1 w1 af.nt ∧ (match resE R env H af.res with | some vs => K (resV vs) H | none => False)) →
        a1.defers = [] ∧ ∃ v, (results fn a1.tmps).run P w1 = .ok v w1 ∧ ∃ v' V ρ' H', Ending.returned v = .returned V ∧ Ext ρ ρ' ∧ Rel base ρ' H' w1 ∧ ren ρ' v' = some V ∧ K v' H' := by
      rintro ⟨ρ', env, H', hx, hs, hk⟩
      split at hk
      · rename_i vs hvs
        obtain ⟨V, e1, e2⟩ := results_sound hR hs h5 hvs
        exact ⟨hs.defers, V, e2, resV vs, V, ρ', H', rfl, hx, hs.rel, e1, hk⟩
      · exact hk.elim
    cases ex with
    | normal => exact key hh
    | ret => exact key hh
    | exit id => simp only [AQ, QRet] at hh; obtain ⟨_, _, _, _, _, hh⟩ := hh; exact hh.elim
    | goto l => exact hh.elim
    | panic ch => exact hh.elim
    | outgrown => exact hh.elim

/-- What a call has left behind, beyond what was there, may be forgotten. -/
theorem Rel.back {base : World} {ρ ρ' : Ren} {H G : AH} {w w' : World} (h0 : Rel base ρ H w) (h : Rel base ρ' (H ++ G) w') (hx : Ext ρ ρ') : Rel base ρ H w' := by
  have hg : ∀ (i : Nat) o, H[i]? = some o → (H ++ G)[i]? = some o := fun i o ho => by
    rw [List.getElem?_append_left (List.getElem?_eq_some_iff.1 ho).1]; exact ho
  refine ⟨h.below, h0.len, fun i o p h1 h2 => ?_, fun i o p h1 h2 hl => h.blk i o p (hg i o h1) (hx.get h2) hl, fun i j o u p q hij h1 h2 h3 h4 => h.inj i j o u p q hij (hg i o h1) (hg j u h2) (hx.get h3) (hx.get h4)⟩
  have a := h0.obj i o p h1 h2
  have b := h.obj i o p (hg i o h1) (hx.get h2)
  cases o with
  | cells c t =>
    obtain ⟨C, cs, a1, a2, a3⟩ := a
    obtain ⟨D, ds, b1, b2, b3⟩ := b
    rw [renL_ext hx a2] at b2; cases b2
    exact ⟨D, cs, b1, a2, b3⟩
  | row c t sz =>
    obtain ⟨C, cs, a1, a2, a3, a4⟩ := a
    obtain ⟨D, ds, b1, b2, b3, b4⟩ := b
    rw [renL_ext hx a2] at b2; cases b2
    exact ⟨D, cs, b1, a2, b3, b4⟩
  | map es k =>
    obtain ⟨E, a1, a2⟩ := a
    obtain ⟨D, b1, b2⟩ := b
    rw [renE_ext hx a2] at b2
    exact ⟨D, b1, by rw [a2]; exact b2⟩
  | siter s pos => exact b
  | obj _ x es vs => exact ⟨b.1, b.2.1, a.2.2⟩
  | dead => trivial

/-- A call whose answer names no block, and that has left what was there as it was: what it has made is forgotten. -/
theorem ACalls.gc {f : FuncId} {args : List AV} {H : AH} {K : AV → Prop} (h : ACalls P R f args H fun v H' => (∃ G, H' = H ++ G) ∧ (ren [] v).isSome = true ∧ K v) : ACalls P R f args H fun v H' => H' = H ∧ K v := by
  intro base hR ρ w Vs hrel hV
  refine (h base hR ρ w Vs hrel hV).mono ?_
  rintro e w' ⟨v, V, ρ', H', rfl, hx, hr, hv, ⟨G, rfl⟩, hs, hk⟩
  obtain ⟨V0, h0⟩ := Option.isSome_iff_exists.1 hs
  have h1 := ren_ext (ρ' := ρ') ⟨ρ', by simp⟩ h0
  rw [hv] at h1; cases h1
  exact ⟨v, V, ρ, H, rfl, Ext.refl _, hrel.back hr hx, ren_ext ⟨ρ, by simp⟩ h0, rfl, hk⟩
end
end Am
