/- Values laid open before a step goes on, so that the kernel's work stays small. Each is the identity. -/
import Derived.Test.YtjglohfkpigdfaaDoorAmFn
set_option linter.unusedSimpArgs false
set_option linter.unusedVariables false
set_option linter.unusedSectionVars false
set_option linter.unnecessarySimpa false
namespace Am
open Go Go.RowKit
universe u
noncomputable section
variable {β : Type u}
def fN (n : Nat) (k : Nat → β) : β := Nat.casesOn (motive := fun _ => β) (Nat.succ n) (k 0) k
theorem fN_eq (n : Nat) (k : Nat → β) : fN n k = k n := rfl
def fI (n : Int) (k : Int → β) : β := Int.casesOn (motive := fun _ => β) n (fun n => fN n fun n => k (.ofNat n)) (fun n => fN n fun n => k (.negSucc n))
theorem fI_eq (n : Int) (k : Int → β) : fI n k = k n := by cases n <;> rfl
def fU (c : UInt8) (k : UInt8 → β) : β := fN c.toNat fun n => k (UInt8.ofNat n)
theorem fU_eq (c : UInt8) (k : UInt8 → β) : fU c k = k c := by simp [fU, fN_eq]
def fLoc (l : Loc) (k : Loc → β) : β := match l with
  | .ro b => fN b fun b => k (.ro b)
  | .mu i => fN i fun i => k (.mu i)
theorem fLoc_eq (l : Loc) (k : Loc → β) : fLoc l k = k l := by cases l <;> rfl
def fCap (l : Cap) (k : Cap → β) : β := match l with
  | .known b => fN b fun b => k (.known b)
  | .opn i => fN i fun i => k (.opn i)
theorem fCap_eq (l : Cap) (k : Cap → β) : fCap l k = k l := by cases l <;> rfl
def fB (b : Bool) (k : Bool → β) : β := match b with
  | true => k true
  | false => k false
theorem fB_eq (b : Bool) (k : Bool → β) : fB b k = k b := by cases b <;> rfl
/-- Of a list: is it of at most so many? -/
def short {α : Type} (l : List α) : Nat → Bool := List.rec (motive := fun _ => Nat → Bool) (fun _ => true) (fun _ _ ih n => Nat.casesOn (motive := fun _ => Bool) n false ih) l
def fStr0 (s : List UInt8) : (List UInt8 → β) → β := List.rec (motive := fun _ => (List UInt8 → β) → β) (fun k => k []) (fun c _ ih k => fU c fun c => ih fun s => k (c :: s)) s
theorem fStr0_eq (s : List UInt8) (k : List UInt8 → β) : fStr0 s k = k s := by
  induction s generalizing k with
  | nil => rfl
  | cons c s ih => show fU c (fun c => fStr0 s fun s => k (c :: s)) = _; rw [fU_eq, ih]
def fStr (s : List UInt8) (k : List UInt8 → β) : β := match short s 300 with
  | true => fStr0 s k
  | false => k s
theorem fStr_eq (s : List UInt8) (k : List UInt8 → β) : fStr s k = k s := by unfold fStr; split <;> simp [fStr0_eq]
mutual
def fAV : AV → (AV → β) → β
  | .bool b, k => fB b fun b => k (.bool b)
  | .int j n, k => fI n fun n => k (.int j n)
  | .str s, k => fStr s fun s => k (.str s)
  | .ptr l o, k => fLoc l fun l => fN o fun o => k (.ptr l o)
  | .slice l o n c, k => fLoc l fun l => fN o fun o => fN n fun n => fCap c fun c => k (.slice l o n c)
  | .map i, k => fN i fun i => k (.map i)
  | .iface t v, k => fAV v fun v => k (.iface t v)
  | .agg cs, k => fAVL cs fun cs => k (.agg cs)
  | .tuple cs, k => fAVL cs fun cs => k (.tuple cs)
  | .fn f a c, k => fAVL a fun a => fAVL c fun c => k (.fn f a c)
  | .nilptr, k => k .nilptr
  | .nilslice, k => k .nilslice
  | .nilmap, k => k .nilmap
  | .nilfn, k => k .nilfn
  | .niface, k => k .niface
def fAVL : List AV → (List AV → β) → β
  | [], k => k []
  | v :: vs, k => fAV v fun v => fAVL vs fun vs => k (v :: vs)
end
mutual
theorem fAV_eq : ∀ (v : AV) (k : AV → β), fAV v k = k v
  | .bool b, k => by simp only [fAV, fB_eq]
  | .int j n, k => by simp only [fAV, fI_eq]
  | .str s, k => by simp only [fAV, fStr_eq]
  | .ptr l o, k => by simp only [fAV, fLoc_eq, fN_eq]
  | .slice l o n c, k => by simp only [fAV, fLoc_eq, fN_eq, fCap_eq]
  | .map i, k => by simp only [fAV, fN_eq]
  | .iface t v, k => by simp only [fAV, fAV_eq v]
  | .agg cs, k => by simp only [fAV, fAVL_eq cs]
  | .tuple cs, k => by simp only [fAV, fAVL_eq cs]
  | .fn f a c, k => by simp only [fAV, fAVL_eq a, fAVL_eq c]
  | .nilptr, k => by simp only [fAV]
  | .nilslice, k => by simp only [fAV]
  | .nilmap, k => by simp only [fAV]
  | .nilfn, k => by simp only [fAV]
  | .niface, k => by simp only [fAV]
theorem fAVL_eq : ∀ (v : List AV) (k : List AV → β), fAVL v k = k v
  | [], k => by simp only [fAVL]
  | v :: vs, k => by simp only [fAVL, fAV_eq v, fAVL_eq vs]
end
/-- The list's spine. -/
def fL {α : Type} (l : List α) : (List α → β) → β := List.rec (motive := fun _ => (List α → β) → β) (fun k => k []) (fun x _ ih k => ih fun xs => k (x :: xs)) l
theorem fL_eq {α : Type} (l : List α) (k : List α → β) : fL l k = k l := by
  induction l generalizing k with
  | nil => rfl
  | cons c s ih => show fL s (fun s => k (c :: s)) = _; rw [ih]
def fO (o : AO) (k : AO → β) : β := match o with
  | .cells c t => match short c 300 with
    | true => fAVL c fun c => k (.cells c t)
    | false => k (.cells c t)
  | .row c t sz => match short c 300 with
    | true => fAVL c fun c => k (.row c t sz)
    | false => k (.row c t sz)
  | .map es n => fL es fun es => fN n fun n => k (.map es n)
  | .siter s n => fN n fun n => k (.siter s n)
  | .dead => k .dead
theorem fO_eq (o : AO) (k : AO → β) : fO o k = k o := by
  cases o <;> simp only [fO, fN_eq, fL_eq]
  · split <;> simp only [fAVL_eq]
  · split <;> simp only [fAVL_eq]
/-- A heap: the last object, and those whose numbers are told, whole; of the others that they stand. -/
def fH (ids : List Nat) (H : AH) : Nat → (AH → β) → β := List.rec (motive := fun _ => Nat → (AH → β) → β) (fun _ k => k [])
  (fun o os ih i k => match os.isEmpty || ids.any (Nat.beq i) with
    | true => fO o fun o => ih (Nat.succ i) fun os => k (o :: os)
    | false => ih (Nat.succ i) fun os => k (o :: os)) H
theorem fH_eq (ids : List Nat) (H : AH) (i : Nat) (k : AH → β) : fH ids H i k = k H := by
  induction H generalizing i k with
  | nil => rfl
  | cons o os ih =>
    show (match os.isEmpty || ids.any (Nat.beq i) with
      | true => fO o fun o => fH ids os (Nat.succ i) fun os => k (o :: os)
      | false => fH ids os (Nat.succ i) fun os => k (o :: os)) = _
    split <;> simp only [fO_eq, ih]
end
def idOf : AV → List Nat
  | .ptr (.mu i) _ => [i]
  | .slice (.mu i) _ _ _ => [i]
  | .map i => [i]
  | _ => []
def touched (e : Env) : AOp → List Nat
  | .store _ x _ => idOf (x.ev e)
  | .mapUpd _ m _ _ => idOf (m.ev e)
  | .mapEntry _ _ m _ => idOf (m.ev e)
  | .entryStore m _ _ => idOf (m.ev e)
  | .mapDel _ m _ => idOf (m.ev e)
  | .mapClear m => idOf (m.ev e)
  | .nextS x => idOf (x.ev e)
  | .append _ _ _ s _ => idOf (s.ev e)
  | .copy _ d _ => idOf (d.ev e)
  | .clearS _ _ x => idOf (x.ev e)
  | .atom _ xs => (xs.map fun x => idOf (x.ev e)).flatten
  | _ => []
universe v
noncomputable section
/-- What a step gave, laid open. -/
def fRes {β : Type v} (op : AOp) (e : Env) (v : AV) (H' : AH) (k : AV → AH → β) : β := fAV v fun v => match op.quiet with
  | true => k v H'
  | false => fH (touched e op) H' 0 fun H' => k v H'
theorem fRes_eq {β : Type v} (op : AOp) (e : Env) (v : AV) (H' : AH) (k : AV → AH → β) : fRes op e v H' k = k v H' := by
  unfold fRes
  rw [fAV_eq]
  split <;> simp only [fH_eq]
end
end Am
