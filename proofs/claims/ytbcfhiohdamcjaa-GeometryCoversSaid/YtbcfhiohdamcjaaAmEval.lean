/- Values laid open before a step goes on, so that the kernel's work stays small. Each is the identity. -/
import Derived.Test.YtbcfhiohdamcjaaAmFn
set_option linter.unusedSimpArgs false
set_option linter.unusedVariables false
set_option linter.unusedSectionVars false
set_option linter.unnecessarySimpa false
namespace Am
open Go Go.RowKit
universe u
noncomputable section
variable {β : Type u}
def fN (n : Nat) (k : Nat → β) : β := Nat.casesOn (motive := fun _ => β) (Nat.succ n) (k 0) k
theorem fN_eq (n : Nat) (k : Nat → β) : fN n k = k n := rfl
def fI (n : Int) (k : Int → β) : β := Int.casesOn (motive := fun _ => β) n (fun n => fN n fun n => k (.ofNat n)) (fun n => fN n fun n => k (.negSucc n))
theorem fI_eq (n : Int) (k : Int → β) : fI n k = k n := by cases n <;> rfl
def fU (c : UInt8) (k : UInt8 → β) : β := fN c.toNat fun n => k (UInt8.ofNat n)
theorem fU_eq (c : UInt8) (k : UInt8 → β) : fU c k = k c := by simp [fU, fN_eq]
def fLoc (l : Loc) (k : Loc → β) : β := match l with
  | .ro b => fN b fun b => k (.ro b)
  | .mu i => fN i fun i => k (.mu i)
theorem fLoc_eq (l : Loc) (k : Loc → β) : fLoc l k = k l := by cases l <;> rfl
def fCap (l : Cap) (k : Cap → β) : β := match l with
  | .known b => fN b fun b => k (.known b)
  | .opn i => fN i fun i => k (.opn i)
theorem fCap_eq (l : Cap) (k : Cap → β) : fCap l k = k l := by cases l <;> rfl
def fB (b : Bool) (k : Bool → β) : β := match b with
  | true => k true
  | false => k false
theorem fB_eq (b : Bool) (k : Bool → β) : fB b k = k b := by cases b <;> rfl
/-- Of a list: is it of at most so many? -/
def short {α : Type} (l : List α) : Nat → Bool := List.rec (motive := fun _ => Nat → Bool) (fun _ => true) (fun _ _ ih n => Nat.casesOn (motive := fun _ => Bool) n false ih) l
def fStr0 (s : List UInt8) : (List UInt8 → β) → β := List.rec (motive := fun _ => (List UInt8 → β) → β) (fun k => k []) (fun c _ ih k => fU c fun c => ih fun s => k (c :: s)) s
theorem fStr0_eq (s : List UInt8) (k : List UInt8 → β) : fStr0 s k = k s := by
  induction s generalizing k with
  | nil => rfl
  | cons c s ih => show fU c (fun c => fStr0 s fun s => k (c :: s)) = _; rw [fU_eq, ih]
def fStr (s : List UInt8) (k : List UInt8 → β) : β := match short s 300 with
  | true => fStr0 s k
  | false => k s
theorem fStr_eq (s : List UInt8) (k : List UInt8 → β) : fStr s k = k s := by unfold fStr; split <;> simp [fStr0_eq]
mutual
def fAV : AV → (AV → β) → β
  | .bool b, k => fB b fun b => k (.bool b)
  | .int j n, k => fI n fun n => k (.int j n)
  | .str s, k => fStr s fun s => k (.str s)
  | .ptr l o, k => fLoc l fun l => fN o fun o => k (.ptr l o)
  | .slice l o n c, k => fLoc l fun l => fN o fun o => fN n fun n => fCap c fun c => k (.slice l o n c)
  | .map i, k => fN i fun i => k (.map i)
  | .iface t v, k => fAV v fun v => k (.iface t v)
  | .agg cs, k => fAVL cs fun cs => k (.agg cs)
  | .tuple cs, k => fAVL cs fun cs => k (.tuple cs)
  | .fn f a c, k => fAVL a fun a => fAVL c fun c => k (.fn f a c)
  | .nilptr, k => k .nilptr
  | .nilslice, k => k .nilslice
  | .nilmap, k => k .nilmap
  | .nilfn, k => k .nilfn
  | .niface, k => k .niface
  | .raw x, k => k (.raw x)
def fAVL : List AV → (List AV → β) → β
  | [], k => k []
  | v :: vs, k => fAV v fun v => fAVL vs fun vs => k (v :: vs)
end
mutual
theorem fAV_eq : ∀ (v : AV) (k : AV → β), fAV v k = k v
  | .bool b, k => by simp only [fAV, fB_eq]
  | .int j n, k => by simp only [fAV, fI_eq]
  | .str s, k => by simp only [fAV, fStr_eq]
  | .ptr l o, k => by simp only [fAV, fLoc_eq, fN_eq]
  | .slice l o n c, k => by simp only [fAV, fLoc_eq, fN_eq, fCap_eq]
  | .map i, k => by simp only [fAV, fN_eq]
  | .iface t v, k => by simp only [fAV, fAV_eq v]
  | .agg cs, k => by simp only [fAV, fAVL_eq cs]
  | .tuple cs, k => by simp only [fAV, fAVL_eq cs]
  | .fn f a c, k => by simp only [fAV, fAVL_eq a, fAVL_eq c]
  | .nilptr, k => by simp only [fAV]
  | .nilslice, k => by simp only [fAV]
  | .nilmap, k => by simp only [fAV]
  | .nilfn, k => by simp only [fAV]
  | .niface, k => by simp only [fAV]
  | .raw x, k => by simp only [fAV]
theorem fAVL_eq : ∀ (v : List AV) (k : List AV → β), fAVL v k = k v
  | [], k => by simp only [fAVL]
  | v :: vs, k => by simp only [fAVL, fAV_eq v, fAVL_eq vs]
end
/-- The list's spine. -/
def fL {α : Type} (l : List α) : (List α → β) → β := List.rec (motive := fun _ => (List α → β) → β) (fun k => k []) (fun x _ ih k => ih fun xs => k (x :: xs)) l
theorem fL_eq {α : Type} (l : List α) (k : List α → β) : fL l k = k l := by
  induction l generalizing k with
  | nil => rfl
  | cons c s ih => show fL s (fun s => k (c :: s)) = _; rw [ih]
def fO (o : AO) (k : AO → β) : β := match o with
  | .cells c t => match short c 300 with
    | true => fAVL c fun c => k (.cells c t)
    | false => k (.cells c t)
  | .row c t sz => match short c 300 with
    | true => fAVL c fun c => k (.row c t sz)
    | false => k (.row c t sz)
  | .map es n => fL es fun es => fN n fun n => k (.map es n)
  | .siter s n => fN n fun n => k (.siter s n)
  | .obj b x es vs => k (.obj b x es vs)
  | .dead => k .dead
theorem fO_eq (o : AO) (k : AO → β) : fO o k = k o := by
  cases o <;> simp only [fO, fN_eq, fL_eq]
  · split <;> simp only [fAVL_eq]
  · split <;> simp only [fAVL_eq]
/-- A heap: the last object, and those whose numbers are told, whole; of the others that they stand. -/
def fH (ids : List Nat) (H : AH) : Nat → (AH → β) → β := List.rec (motive := fun _ => Nat → (AH → β) → β) (fun _ k => k [])
  (fun o os ih i k => match os.isEmpty || ids.any (Nat.beq i) with
    | true => fO o fun o => ih (Nat.succ i) fun os => k (o :: os)
    | false => ih (Nat.succ i) fun os => k (o :: os)) H
theorem fH_eq (ids : List Nat) (H : AH) (i : Nat) (k : AH → β) : fH ids H i k = k H := by
  induction H generalizing i k with
  | nil => rfl
  | cons o os ih =>
    show (match os.isEmpty || ids.any (Nat.beq i) with
      | true => fO o fun o => fH ids os (Nat.succ i) fun os => k (o :: os)
      | false => fH ids os (Nat.succ i) fun os => k (o :: os)) = _
    split <;> simp only [fO_eq, ih]
end
def idOf : AV → List Nat
  | .ptr (.mu i) _ => [i]
  | .slice (.mu i) _ _ _ => [i]
  | .map i => [i]
  | _ => []
def touched (e : Env) : AOp → List Nat
  | .store _ x _ => idOf (x.ev e)
  | .mapUpd _ m _ _ => idOf (m.ev e)
  | .mapEntry _ _ m _ => idOf (m.ev e)
  | .entryStore m _ _ => idOf (m.ev e)
  | .mapDel _ m _ => idOf (m.ev e)
  | .mapClear m => idOf (m.ev e)
  | .nextS x => idOf (x.ev e)
  | .append _ _ _ s _ => idOf (s.ev e)
  | .copy _ d _ => idOf (d.ev e)
  | .clearS _ _ x => idOf (x.ev e)
  | .atom _ xs => (xs.map fun x => idOf (x.ev e)).flatten
  | _ => []
universe v
noncomputable section
/-- What a step gave, laid open. -/
def fRes {β : Type v} (op : AOp) (e : Env) (v : AV) (H' : AH) (k : AV → AH → β) : β := fAV v fun v => match op.quiet with
  | true => k v H'
  | false => fH (touched e op) H' 0 fun H' => k v H'
theorem fRes_eq {β : Type v} (op : AOp) (e : Env) (v : AV) (H' : AH) (k : AV → AH → β) : fRes op e v H' k = k v H' := by
  unfold fRes
  rw [fAV_eq]
  split <;> simp only [fH_eq]
end
end Am
namespace Am
open Go Go.RowKit
noncomputable section

abbrev EL := List AV
def nthA (l : EL) : Nat → AV := List.rec (motive := fun _ => Nat → AV) (fun _ => AV.undef) (fun x _ ih n => Nat.casesOn (motive := fun _ => AV) n x ih) l
theorem nthA_eq (l : EL) (t : Nat) : nthA l t = l.getD t AV.undef := by
  induction l generalizing t with
  | nil => rfl
  | cons x xs ih =>
    cases t with
    | zero => rfl
    | succ t => show nthA xs t = _; rw [ih]; simp
def envOf (l : EL) : Env := fun t => nthA l t
def putL (l : EL) : Option Nat → AV → EL
  | some t, v => l.set t v
  | none, _ => l

theorem envOf_put (l : EL) (d : Option Nat) (v : AV) (h : ∀ t, d = some t → t < l.length) : (envOf l).put d v = envOf (putL l d v) := by
  cases d with
  | none => rfl
  | some t =>
    funext s
    have ht := h t rfl
    simp only [Env.put, Env.upd, envOf, nthA_eq, putL, List.getD_eq_getElem?_getD, List.getElem?_set]
    by_cases hs : s = t
    · subst hs; simp [ht]
    · rw [if_neg hs, if_neg (Ne.symm hs)]

mutual
def beqAV : AV → AV → Bool
  | .bool a, .bool b => a == b
  | .int k a, .int j b => decide (k = j) && a == b
  | .str a, .str b => a == b
  | .ptr l o, .ptr m p => decide (l = m) && o == p
  | .nilptr, .nilptr => true
  | .slice l o n c, .slice m p q d => decide (l = m) && o == p && n == q && decide (c = d)
  | .nilslice, .nilslice => true
  | .map i, .map j => i == j
  | .nilmap, .nilmap => true
  | .fn f a c, .fn g b d => decide (f = g) && beqAVL a b && beqAVL c d
  | .nilfn, .nilfn => true
  | .iface t v, .iface u w => t == u && beqAV v w
  | .niface, .niface => true
  | .agg a, .agg b => beqAVL a b
  | .tuple a, .tuple b => beqAVL a b
  | _, _ => false
def beqAVL : List AV → List AV → Bool
  | [], [] => true
  | a :: as, b :: bs => beqAV a b && beqAVL as bs
  | _, _ => false
end

mutual
theorem beqAV_eq : ∀ {a b : AV}, beqAV a b = true → a = b
  | .bool a, b, h => by cases b <;> simp [beqAV] at h; simp [h]
  | .int k a, b, h => by cases b <;> simp [beqAV] at h; simp [h]
  | .str a, b, h => by cases b <;> simp [beqAV] at h; simp [h]
  | .ptr l o, b, h => by cases b <;> simp [beqAV] at h; simp [h]
  | .nilptr, b, h => by cases b <;> simp [beqAV] at h; rfl
  | .slice l o n c, b, h => by cases b <;> simp [beqAV] at h; simp [h]
  | .nilslice, b, h => by cases b <;> simp [beqAV] at h; rfl
  | .map i, b, h => by cases b <;> simp [beqAV] at h; simp [h]
  | .nilmap, b, h => by cases b <;> simp [beqAV] at h; rfl
  | .fn f a c, b, h => by
    cases b <;> simp [beqAV] at h
    obtain ⟨⟨h1, h2⟩, h3⟩ := h
    rw [h1, beqAVL_eq h2, beqAVL_eq h3]
  | .nilfn, b, h => by cases b <;> simp [beqAV] at h; rfl
  | .iface t v, b, h => by
    cases b <;> simp [beqAV] at h
    obtain ⟨h1, h2⟩ := h
    rw [h1, beqAV_eq h2]
  | .niface, b, h => by cases b <;> simp [beqAV] at h; rfl
  | .agg a, b, h => by
    cases b <;> simp [beqAV] at h
    rw [beqAVL_eq h]
  | .tuple a, b, h => by
    cases b <;> simp [beqAV] at h
    rw [beqAVL_eq h]
theorem beqAVL_eq : ∀ {a b : List AV}, beqAVL a b = true → a = b
  | [], [], _ => rfl
  | [], _ :: _, h => by simp [beqAVL] at h
  | _ :: _, [], h => by simp [beqAVL] at h
  | a :: as, b :: bs, h => by
    simp [beqAVL] at h
    rw [beqAV_eq h.1, beqAVL_eq h.2]
end

/-- The functions that may be called: each by its text. -/
structure Tab (P : Program) where
  fns : FuncId → Option AFn
  ok : ∀ f af, fns f = some af → FnOk P f af

section
variable (P : Program) (R : Ro) (tab : FuncId → Option AFn)

def dstB : Option Nat → Nat → Bool
  | some t, nt => decide (t < nt)
  | none, _ => true

def heldB (x : Held) (H : AH) : Bool := match x.o.op.eval P R x.env H with
  | some (v, _) => x.o.op.quiet && beqAV v x.v
  | none => false

mutual
/-- All ways of a call end well. -/
def evCall : Nat → FuncId → List AV → AH → (AV → AH → Bool) → Bool
  | 0, _, _, _, _ => false
  | n + 1, f, args, H, k => match tab f with
    | some af => if args.length ≤ af.nt then fL (args ++ List.replicate (af.nt - args.length) AV.undef) fun l0 => evC n af.nt af.body l0 H fun ex l H =>
        match ex with
        | .normal | .ret => match resE R (envOf l) H af.res with
          | some vs => fAV (resV vs) fun v => k v H
          | none => false
        | _ => false
      else false
    | none => false
def evC : Nat → Nat → AC → EL → AH → (Exit → EL → AH → Bool) → Bool
  | 0, _, _, _, _, _ => false
  | n + 1, nt, ac, l, H, k => match ac with
    | .skip => k .normal l H
    | .exit id => k (.exit id) l H
    | .ret => k .ret l H
    | .rangeF _ _ _ _ => false
    | .bad => false
    | .seq a b => evC n nt a l H fun ex l H => match ex with
      | .normal => evC n nt b l H k
      | ex => k ex l H
    | .cond x a b => match x.ev (envOf l) with
      | .bool true => evC n nt a l H k
      | .bool false => evC n nt b l H k
      | _ => false
    | .block id a => evC n nt a l H fun ex l H => match ex with
      | .exit id' => if id' = id then k .normal l H else k (.exit id') l H
      | ex => k ex l H
    | .loop a => evC n nt a l H fun ex l H => match ex with
      | .normal => evC n nt (.loop a) l H k
      | ex => k ex l H
    | .ops os => evOps n nt os l H fun l H => fL l fun l => k .normal l H
    | .draw ds B => evD n nt ds B ds.length [] [] l H fun l H => fL l fun l => k .normal l H
def evOps : Nat → Nat → List AOper → EL → AH → (EL → AH → Bool) → Bool
  | 0, _, _, _, _, _ => false
  | n + 1, nt, os, l, H, k => match os with
    | [] => k l H
    | o :: os => match wantedA o (envOf l) with
      | some true => evStep n nt o l H fun l H => evOps n nt os l H k
      | some false => if dstB o.dst nt then evOps n nt os (putL l o.dst AV.undef) H k else false
      | none => false
def evStep : Nat → Nat → AOper → EL → AH → (EL → AH → Bool) → Bool
  | 0, _, _, _, _, _ => false
  | n + 1, nt, o, l, H, k =>
    if dstB o.dst nt then
    match o.op with
    | .call f xs => fAVL (xs.map (X.ev (envOf l))) fun as => evCall n f as H fun v H' => k (putL l o.dst v) H'
    | .callv x xs => match fnArgs (x.ev (envOf l)) (xs.map (X.ev (envOf l))) with
      | some (f, as) => bodied P f && fAVL as fun as => evCall n f as H fun v H' => k (putL l o.dst v) H'
      | none => false
    | op => match op.eval P R (envOf l) H with
      | some (v, H') => fRes op (envOf l) v H' fun v H' => k (putL l o.dst v) H'
      | none => false
    else false
def evD : Nat → Nat → List DOper → List Nat → Nat → List (Nat × Held) → List Nat → EL → AH → (EL → AH → Bool) → Bool
  | 0, _, _, _, _, _, _, _, _, _ => false
  | n + 1, nt, ds, B, fuel, T, done, l, H, k => match fuel with
    | 0 => (readyA ds done).isEmpty && k l H
    | fuel + 1 => match firstQ ds done (envOf l) with
      | some i => match ds[i]? with
        | some d => if dstB d.o.dst nt then match wantedA d.o (envOf l) with
          | some false => evD n nt ds B fuel T (i :: done) (putL l d.o.dst AV.undef) H k
          | some true => match d.o.op.eval P R (envOf l) H with
            | some (v, _) => fAV v fun v => evD n nt ds B fuel ((i, ⟨d.o, envOf l, v⟩) :: T) (i :: done) (putL l d.o.dst v) H k
            | none => false
          | none => false
          else false
        | none => false
      | none => (!(readyA ds done).isEmpty || k l H) && (readyA ds done).all fun i => match ds[i]? with
        | some d => (wantedA d.o (envOf l) == some true) && evStep n nt d.o l H fun l' H' => (keepT (effA ds) B T i).all (fun x => heldB P R x.2 H') && evD n nt ds B fuel (keepT (effA ds) B T i) (i :: done) l' H' k
        | none => false
end

end

section
variable {P : Program} {R : Ro} {tab : FuncId → Option AFn}

theorem quiet_same {op : AOp} (hq : op.quiet = true) {e : Env} {H H' : AH} {v : AV} (h : op.eval P R e H = some (v, H')) : H' = H := by
  cases op <;> simp [AOp.quiet] at hq <;> simp only [AOp.eval] at h
  all_goals
    repeat' split at h
    all_goals first
      | (cases h; rfl)
      | (simp only [Option.map_eq_some_iff] at h; obtain ⟨_, _, h⟩ := h; cases h; rfl)
      | (cases h; done)

theorem heldB_ok {x : Held} {H : AH} (h : heldB P R x H = true) : recheck P R x H := by
  unfold heldB at h
  split at h
  · rename_i v H' hev
    simp only [Bool.and_eq_true] at h
    have h1 := quiet_same h.1 hev
    subst h1
    unfold recheck
    rw [hev, beqAV_eq h.2]
  · cases h

theorem stepOp_mono {o : AOper} {K K' : Env → AH → Prop} {e : Env} {H : AH} (hk : ∀ e H, K e H → K' e H) (h : stepOp P R o K e H) : stepOp P R o K' e H := by
  unfold stepOp at h ⊢
  split at h
  · exact h.mono fun v H' hh => hk _ _ hh
  · split at h
    · exact ⟨h.1, h.2.mono fun v H' hh => hk _ _ hh⟩
    · exact h
  · split at h
    · exact hk _ _ h
    · exact h

theorem runOps_mono {K K' : Env → AH → Prop} (hk : ∀ e H, K e H → K' e H) : ∀ {os : List AOper} {e : Env} {H : AH}, runOps P R os K e H → runOps P R os K' e H
  | [], e, H, h => hk _ _ h
  | o :: os, e, H, h => by
    simp only [runOps] at h ⊢
    split at h
    · exact stepOp_mono (fun e H => runOps_mono hk) h
    · exact runOps_mono hk h
    · exact h

def Post (nt : Nat) (k : EL → AH → Bool) : Env → AH → Prop := fun e H => ∃ l, e = envOf l ∧ l.length = nt ∧ k l H = true
def PostX (nt : Nat) (k : Exit → EL → AH → Bool) : Exit → Env → AH → Prop := fun ex e H => ∃ l, e = envOf l ∧ l.length = nt ∧ k ex l H = true

theorem putL_length (l : EL) (d : Option Nat) (v : AV) : (putL l d v).length = l.length := by cases d <;> simp [putL]

theorem dst_ok {d : Option Nat} {nt : Nat} (h : dstB d nt = true) {l : EL} (hl : l.length = nt) : ∀ t, d = some t → t < l.length := by
  intro t ht; subst ht; simp [dstB] at h; omega

theorem ev_sound (hm : P.follows .mixedOrders = true) (htab : ∀ f af, tab f = some af → FnOk P f af) : ∀ n,
    (∀ f args H k, evCall P R tab n f args H k = true → ACalls P R f args H fun v H' => k v H' = true) ∧
    (∀ nt ac l H k, l.length = nt → evC P R tab n nt ac l H k = true → AWp P R nt ac (PostX nt k) (envOf l) H) ∧
    (∀ nt os l H k, l.length = nt → evOps P R tab n nt os l H k = true → runOps P R os (Post nt k) (envOf l) H) ∧
    (∀ nt o l H k, l.length = nt → evStep P R tab n nt o l H k = true → stepOp P R o (Post nt k) (envOf l) H) ∧
    (∀ nt ds B fuel T done l H k, l.length = nt → evD P R tab n nt ds B fuel T done l H k = true → execD P R ds B (Post nt k) fuel T done (envOf l) H) := by
  intro n
  induction n using Nat.strongRecOn with
  | _ n ih0 =>
  cases n with
  | zero => exact ⟨fun _ _ _ _ h => by simp [evCall] at h, fun _ _ _ _ _ _ h => by simp [evC] at h, fun _ _ _ _ _ _ h => by simp [evOps] at h, fun _ _ _ _ _ _ h => by simp [evStep] at h, fun _ _ _ _ _ _ _ _ _ _ h => by simp [evD] at h⟩
  | succ n =>
    obtain ⟨ihCall, ihC, ihOps, ihStep, ihD⟩ := ih0 n (Nat.lt_succ_self n)
    refine ⟨?_, ?_, ?_, ?_, ?_⟩
    · intro f args H k h
      simp only [evCall, fAV_eq, fAVL_eq, fL_eq, fRes_eq] at h
      split at h
      · rename_i af haf
        split at h
        · rename_i hle
          refine ACalls.of_body (htab f af haf) hle ?_
          have hlen : (args ++ List.replicate (af.nt - args.length) AV.undef).length = af.nt := by simp; omega
          have henv : envOf (args ++ List.replicate (af.nt - args.length) AV.undef) = env0 args := by
            funext t
            simp only [envOf, nthA_eq, env0, List.getD_eq_getElem?_getD, List.getElem?_append]
            split
            · rfl
            · rename_i hlt
              have e1 : args[t]? = none := List.getElem?_eq_none (by omega)
              rw [e1, List.getElem?_replicate]
              split <;> rfl
          rw [← henv]
          refine (ihC _ _ _ _ _ hlen h).mono ?_
          rintro ex e H' ⟨l', rfl, hl', hk⟩
          cases ex <;> simp only [QRet] at hk ⊢ <;> first
            | (split at hk
               · rename_i vs hvs; rw [hvs]; exact hk
               · cases hk)
            | cases hk
        · cases h
      · cases h
    · intro nt ac l H k hl h
      cases ac with
      | skip => simp only [evC, fAV_eq, fAVL_eq, fL_eq, fRes_eq] at h; exact AWp.skip ⟨l, rfl, hl, h⟩
      | exit id => simp only [evC, fAV_eq, fAVL_eq, fL_eq, fRes_eq] at h; exact AWp.exit ⟨l, rfl, hl, h⟩
      | ret => simp only [evC, fAV_eq, fAVL_eq, fL_eq, fRes_eq] at h; exact AWp.ret ⟨l, rfl, hl, h⟩
      | rangeF g ps a b => simp [evC] at h
      | bad => simp [evC] at h
      | seq a b =>
        simp only [evC, fAV_eq, fAVL_eq, fL_eq, fRes_eq] at h
        refine AWp.seq ((ihC _ _ _ _ _ hl h).mono ?_)
        rintro ex e H' ⟨l', rfl, hl', hk⟩
        cases ex with
        | normal => exact ihC _ _ _ _ _ hl' hk
        | _ => exact ⟨l', rfl, hl', hk⟩
      | cond x a b =>
        simp only [evC, fAV_eq, fAVL_eq, fL_eq, fRes_eq] at h
        split at h
        · rename_i hx; exact AWp.cond hx (fun _ => ihC _ _ _ _ _ hl h) (fun h0 => by cases h0)
        · rename_i hx; exact AWp.cond hx (fun h0 => by cases h0) (fun _ => ihC _ _ _ _ _ hl h)
        · cases h
      | block id a =>
        simp only [evC, fAV_eq, fAVL_eq, fL_eq, fRes_eq] at h
        refine AWp.block ((ihC _ _ _ _ _ hl h).mono ?_)
        rintro ex e H' ⟨l', rfl, hl', hk⟩
        cases ex with
        | exit id' =>
          simp only [QBlock] at hk ⊢
          split
          · rename_i h0; rw [if_pos h0] at hk; exact ⟨l', rfl, hl', hk⟩
          · rename_i h0; rw [if_neg h0] at hk; exact ⟨l', rfl, hl', hk⟩
        | _ => exact ⟨l', rfl, hl', hk⟩
      | loop a =>
        refine AWp.loop_ind (fun m e H => m ≤ n + 1 ∧ ∃ l, e = envOf l ∧ l.length = nt ∧ evC P R tab m nt (.loop a) l H k = true) (n := n + 1) ⟨Nat.le_refl _, l, rfl, hl, h⟩ ?_
        rintro m e H1 ⟨hmn, l1, rfl, hl1, hev⟩
        cases m with
        | zero => simp [evC] at hev
        | succ m =>
          simp only [evC, fAV_eq, fAVL_eq, fL_eq, fRes_eq] at hev
          refine ((ih0 m (by omega)).2.1 _ _ _ _ _ hl1 hev).mono ?_
          rintro ex e H' ⟨l', rfl, hl', hk⟩
          cases ex with
          | normal => exact ⟨m, Nat.lt_succ_self m, by omega, l', rfl, hl', hk⟩
          | _ => exact ⟨l', rfl, hl', hk⟩
      | ops os => simp only [evC, fAV_eq, fAVL_eq, fL_eq, fRes_eq] at h; exact AWp.ops (ihOps _ _ _ _ _ hl h)
      | draw ds B => simp only [evC, fAV_eq, fAVL_eq, fL_eq, fRes_eq] at h; exact AWp.draw hm (ihD _ _ _ _ _ _ _ _ _ hl h)
    · intro nt os l H k hl h
      cases os with
      | nil => simp only [evOps, fAV_eq, fAVL_eq, fL_eq, fRes_eq] at h; exact ⟨l, rfl, hl, h⟩
      | cons o os =>
        simp only [evOps, fAV_eq, fAVL_eq, fL_eq, fRes_eq] at h
        simp only [runOps]
        split at h
        · rename_i hw
          rw [hw]
          refine stepOp_mono ?_ (ihStep _ _ _ _ _ hl h)
          rintro e H' ⟨l', rfl, hl', hk⟩
          exact ihOps _ _ _ _ _ hl' hk
        · rename_i hw
          rw [hw]
          dsimp only
          split at h
          · rename_i hd
            rw [envOf_put l o.dst _ (dst_ok hd hl)]
            exact ihOps _ _ _ _ _ (by rw [putL_length, hl]) h
          · cases h
        · cases h
    · intro nt o l H k hl h
      simp only [evStep, fAV_eq, fAVL_eq, fL_eq, fRes_eq] at h
      split at h
      · rename_i hd
        have hd' := dst_ok hd hl
        unfold stepOp
        split at h
        · rename_i f xs hop
          rw [hop]
          refine (ihCall _ _ _ _ h).mono fun v H' hk => ?_
          rw [envOf_put l o.dst v hd']
          exact ⟨_, rfl, by rw [putL_length, hl], hk⟩
        · rename_i x xs hop
          rw [hop]
          dsimp only
          split at h
          · rename_i f as hf
            rw [hf]
            simp only [Bool.and_eq_true] at h
            refine ⟨h.1, (ihCall _ _ _ _ h.2).mono fun v H' hk => ?_⟩
            rw [envOf_put l o.dst v hd']
            exact ⟨_, rfl, by rw [putL_length, hl], hk⟩
          · cases h
        · split at h
          · rename_i v H' hev
            split
            · simp_all
            · simp_all
            · rw [hev]
              dsimp only
              rw [envOf_put l o.dst v hd']
              exact ⟨_, rfl, by rw [putL_length, hl], h⟩
          · cases h
      · cases h
    · intro nt ds B fuel T done l H k hl h
      cases fuel with
      | zero =>
        simp only [evD, Bool.and_eq_true] at h
        exact ⟨by simpa using h.1, l, rfl, hl, h.2⟩
      | succ fuel =>
        simp only [evD, fAV_eq, fAVL_eq, fL_eq, fRes_eq] at h
        simp only [execD]
        split at h
        · rename_i i hfi
          rw [hfi]
          dsimp only
          split at h
          · rename_i d hdi
            rw [hdi]
            dsimp only
            split at h
            · rename_i hd
              have hd' := dst_ok hd hl
              split at h
              · rename_i hw
                rw [hw]
                dsimp only
                rw [envOf_put l d.o.dst _ hd']
                exact ihD _ _ _ _ _ _ _ _ _ (by rw [putL_length, hl]) h
              · rename_i hw
                rw [hw]
                dsimp only
                split at h
                · rename_i v H' hev
                  rw [hev]
                  dsimp only
                  rw [envOf_put l d.o.dst _ hd']
                  exact ihD _ _ _ _ _ _ _ _ _ (by rw [putL_length, hl]) h
                · cases h
              · cases h
            · cases h
          · cases h
        · rename_i hfi
          rw [hfi]
          dsimp only
          simp only [Bool.and_eq_true, Bool.or_eq_true, List.all_eq_true] at h
          refine ⟨fun h0 => ?_, fun i hi => ?_⟩
          · rcases h.1 with h1 | h1
            · rw [h0] at h1; simp at h1
            · exact ⟨l, rfl, hl, h1⟩
          · have h2 := h.2 i hi
            split at h2
            · rename_i d hdi
              simp only [Bool.and_eq_true] at h2
              rw [hdi]
              dsimp only
              refine ⟨by simpa using h2.1, stepOp_mono ?_ (ihStep _ _ _ _ _ hl h2.2)⟩
              rintro e H' ⟨l', rfl, hl', hk⟩
              simp only [Bool.and_eq_true, List.all_eq_true] at hk
              exact ⟨fun x hx => heldB_ok (hk.1 x hx), ihD _ _ _ _ _ _ _ _ _ hl' hk.2⟩
            · cases h2
end
end
end Am
