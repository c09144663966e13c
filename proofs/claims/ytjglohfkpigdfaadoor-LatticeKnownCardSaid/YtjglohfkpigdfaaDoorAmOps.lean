/- The operations of the abstract machine: how the model's operations are read, what they do. -/
import Derived.Test.YtjglohfkpigdfaaDoorAmMem
import GoSem.Dispatch
set_option linter.unusedSimpArgs false
set_option linter.unusedVariables false
set_option linter.unusedSectionVars false
set_option linter.unnecessarySimpa false
namespace Am
open Go Go.RowKit

inductive X where
  | t (n : Nat)
  | c (v : AV)

abbrev Env := Nat → AV
def Env.upd (e : Env) (t : Nat) (v : AV) : Env := fun s => if s = t then v else e s
def Env.put (e : Env) : Option Nat → AV → Env
  | some t, v => e.upd t v
  | none, _ => e

def X.ev (e : Env) : X → AV
  | .t n => e n
  | .c v => v

/-! ### Constants -/
def absC0 : Value → Option AV
  | .bool b => some (.bool b)
  | .int k n => some (.int k n)
  | .string s => some (.str s.data.toList)
  | .pointer none => some .nilptr
  | .slice none 0 0 => some .nilslice
  | .map none => some .nilmap
  | .nilFunc => some .nilfn
  | .nilIface => some .niface
  | _ => none
def absC0L : List Value → Option (List AV)
  | [] => some []
  | v :: vs => match absC0 v, absC0L vs with
    | some a, some l => some (a :: l)
    | _, _ => none
def absC : Value → Option AV
  | .agg cs => (absC0L cs.toList).map .agg
  | .tuple cs => (absC0L cs.toList).map .tuple
  | v => absC0 v

def cx : Operand → Option X
  | .tmp t => some (.t t)
  | .const v => (absC v).map .c
  | .func f => some (.c (.fn (.func f) [] []))
  | .global g => some (.c (.ptr (.ro g) 0))
def cxs : List Operand → Option (List X)
  | [] => some []
  | o :: os => match cx o, cxs os with
    | some x, some l => some (x :: l)
    | _, _ => none
def cxo : Option Operand → Option (Option X)
  | none => some none
  | some o => (cx o).map some
def cxp : List (Nat × Operand) → Option (List (Nat × X))
  | [] => some []
  | (i, o) :: os => match cx o, cxp os with
    | some x, some l => some ((i, x) :: l)
    | _, _ => none

/-! ### Functions without a Go body -/
inductive XK where
  | load (k : IntKind)
  | store
  | add (k : IntKind)
  | cas (k : IntKind)
  | disable
  | enable
  | acquire
  | releaseMerge

def XK.sem : XK → Array Value → Sem Value
  | .load k => Extern.Atomic.loadT (.int k)
  | .store => Extern.Atomic.storeT
  | .add k => Extern.Atomic.update (Op.intArith .add) k true
  | .cas k => Extern.Atomic.casT (.int k)
  | .disable => fun _ => do mark .disable; pure Extern.Race.none_
  | .enable => fun _ => do mark .enable; pure Extern.Race.none_
  | .acquire => Extern.Race.marked .acquire
  | .releaseMerge => Extern.Race.marked .releaseMerge

def xkTable : List (String × XK) :=
  [("sync/atomic.LoadInt64", .load .i64), ("sync/atomic.LoadInt32", .load .i32), ("sync/atomic.LoadUint32", .load .u32), ("sync/atomic.StoreUint32", .store), ("sync/atomic.AddInt64", .add .i64), ("sync/atomic.AddInt32", .add .i32),
   ("sync/atomic.CompareAndSwapInt32", .cas .i32), ("internal/race.Disable", .disable), ("internal/race.Enable", .enable), ("internal/race.Acquire", .acquire), ("internal/race.ReleaseMerge", .releaseMerge)]

/-! ### Operations -/
inductive AOp where
  | mv (x : X)
  | pick (c a b : X)
  | box (t : TypeId) (x : X)
  | alloc (t : TypeId) (z : List AV)
  | build (z : List AV) (places : List (Nat × Nat)) (ps : List (Nat × X))
  | bslice (t : TypeId) (sz len : Nat) (z : List AV) (ps : List (Nat × X))
  | load (n : Option Nat) (x : X)
  | store (n : Nat) (x v : X)
  | nilck (x : X)
  | bin (op : BinOp) (x y : X)
  /-- '==' (or '!=') at a type, on values that are no numbers and no texts -/
  | eq (neg : Bool) (t : TypeId) (k : TypeDesc) (x y : X)
  | un (op : UnOp) (x : X)
  | convI (k : IntKind) (x : X)
  | strOf (x : X)
  | sliceS (x : X) (lo hi : Option X)
  | slice (sz : Nat) (x : X) (lo hi mx : Option X)
  | sliceA (n sz : Nat) (x : X) (lo hi : Option X)
  | addr (d : Nat) (x : X)
  | fld (off : Nat) (n : Option Nat) (x : X)
  | iaddrS (sz : Nat) (x i : X)
  | iaddrA (len sz : Nat) (x i : X)
  | idxS (x i : X)
  | idxA (len sz : Nat) (agg : Bool) (x i : X)
  | lookup (key : TypeId) (z : AV) (x i : X) (ok : Bool)
  | mapUpd (key : TypeId) (m k v : X)
  | mapEntry (key : TypeId) (z : AV) (m k : X)
  | entryStore (m s v : X)
  | mkmap
  | mapDel (key : TypeId) (m k : X)
  | mapClear (m : X)
  | rangeS (x : X)
  | nextS (x : X)
  | ext (x : X) (i : Nat)
  | mksl (t : TypeId) (sz bytes : Nat) (z : List AV) (l c : X)
  | fn (f : Fn) (first captured : List X)
  | lenS (x : X)
  | lenL (x : X)
  | lenM (x : X)
  | cap (x : X)
  | append (t : TypeId) (sz bytes : Nat) (s x : X)
  | copy (sz : Nat) (d s : X)
  | clearS (sz : Nat) (z : List AV) (x : X)
  | minI (x : X) (xs : List X)
  | maxI (x : X) (xs : List X)
  /-- a call of a function without a Go body -/
  | atom (k : XK) (xs : List X)
  | toUnsafe (x : X)
  /-- what is not read -/
  | bad
  /-- a call of a Go function: its number, its operands -/
  | call (f : FuncId) (xs : List X)
  /-- a call of a function value -/
  | callv (f : X) (xs : List X)

structure AOper where
  dst : Option Nat
  guard : Option (Nat × Bool)
  op : AOp

section
variable (P : Program)

def zeroC (t : TypeId) : Option AV := match P.info? t with
  | some i => i.zero.bind absC
  | none => none
def sizeC (t : TypeId) : Option Nat := (P.info? t).map (·.size)
def bytesC (t : TypeId) : Option Nat := (P.info? t).map (·.bytes)
def aggC (t : TypeId) : Option Bool := match P.underlying t with
  | some (.struct _) | some (.array _ _) => some true
  | some _ => some false
  | none => none

def placesC : List Field → Option (List (Nat × Nat))
  | [] => some []
  | f :: fs => match sizeC P f.type, placesC fs with
    | some n, some l => some ((f.offset, n) :: l)
    | _, _ => none

def bodied (f : FuncId) : Bool := match P.funcs[f]? with
  | some fn => fn.body.isSome && fn.name != "runtime.NumGoroutine"
  | none => false

def externC (f : FuncId) : Option XK := match P.funcs[f]? with
  | some fn => if fn.body.isNone && fn.origin == "" && fn.name != "runtime.NumGoroutine" then xkTable.lookup fn.name else none
  | none => none

def compCall (c : Call) : Option AOp :=
  match c.callee with
  | .value (.func f) => match cxs c.args.toList with
    | some xs => if bodied P f then some (.call f xs) else (externC P f).map fun k => .atom k xs
    | none => none
  | .value (.tmp t) => match cxs c.args.toList with
    | some xs => some (.callv (.t t) xs)
    | none => none
  | .builtin .len => match c.argTypes[0]?, c.args.toList with
    | some t, [a] => match P.underlying t, cx a with
      | some .string, some x => some (.lenS x)
      | some (.slice _), some x => some (.lenL x)
      | some (.map _ _), some x => some (.lenM x)
      | some (.array n _), some _ => some (.mv (.c (.int .i64 n)))
      | _, _ => none
    | _, _ => none
  | .builtin .cap => match c.argTypes[0]?, c.args.toList with
    | some t, [a] => match P.underlying t, cx a with
      | some (.slice _), some x => some (.cap x)
      | _, _ => none
    | _, _ => none
  | .builtin .append => match c.argTypes[0]?, c.argTypes[1]?, c.args.toList with
    | some t, some u, [a, b] => match P.underlying t, P.underlying u, cx a, cx b with
      | some (.slice e), some (.slice _), some x, some y | some (.slice e), some .string, some x, some y => match sizeC P e, bytesC P e, zeroC P e with
        | some sz, some by', some z => if z.cells.length = sz then some (.append e sz by' x y) else none
        | _, _, _ => none
      | _, _, _, _ => none
    | _, _, _ => none
  | .builtin .copy => match c.argTypes[0]?, c.args.toList with
    | some t, [a, b] => match P.underlying t, cx a, cx b with
      | some (.slice e), some x, some y => (sizeC P e).map fun sz => .copy sz x y
      | _, _, _ => none
    | _, _ => none
  | .builtin .clear => match c.argTypes[0]?, c.args.toList with
    | some t, [a] => match P.underlying t, cx a with
      | some (.slice e), some x => match sizeC P e, zeroC P e with
        | some sz, some z => some (.clearS sz z.cells x)
        | _, _ => none
      | some (.map _ _), some x => some (.mapClear x)
      | _, _ => none
    | _, _ => none
  | .builtin .delete => match c.argTypes[0]?, c.args.toList with
    | some t, [a, b] => match P.underlying t, cx a, cx b with
      | some (.map key _), some x, some y => some (.mapDel key x y)
      | _, _, _ => none
    | _, _ => none
  | .builtin .min => match cxs c.args.toList with
    | some (x :: xs) => some (.minI x xs)
    | _ => none
  | .builtin .max => match cxs c.args.toList with
    | some (x :: xs) => some (.maxI x xs)
    | _ => none
  | _ => none

def compOp : Op → Option AOp
  | .move x | .assign x => (cx x).map .mv
  | .pick c a b => match cx c, cx a, cx b with
    | some c, some a, some b => some (.pick c a b)
    | _, _, _ => none
  | .alloc t => (zeroC P t).map fun z => .alloc t z.cells
  | .box t v => (cx v).map (.box t)
  | .build t ps => match P.underlying t, zeroC P t, cxp ps.toList with
    | some (.struct fs), some z, some l => (placesC P fs.toList).map fun pl => .build z.cells pl l
    | some (.array n e), some z, some l => (sizeC P e).map fun s => .build z.cells ((List.range (max n (ps.size + 1) + z.cells.length)).map fun i => (i * s, s)) l
    | _, _, _ => none
  | .buildSlice t len ps => match P.underlying t, cxp ps.toList with
    | some (.slice e), some l => match sizeC P e, zeroC P e with
      | some sz, some z => if len * sz ≤ 2 ^ 24 ∧ l.all (fun p => decide (p.1 < len)) then some (.bslice e sz len z.cells l) else none
      | _, _ => none
    | _, _ => none
  | .load t a => match aggC P t, cx a with
    | some true, some x => (sizeC P t).map fun n => .load (some n) x
    | some false, some x => some (.load none x)
    | _, _ => none
  | .store t a v => match cx a, cx v, sizeC P t with
    | some x, some y, some n => some (.store n x y)
    | _, _, _ => none
  | .nilCheck x => (cx x).map .nilck
  | .binOp op t x y _ => match cx x, cx y with
    | some x', some y' => match op, P.underlying t with
      | .eql, some (.int _) | .eql, some .string | .neq, some (.int _) | .neq, some .string => some (.bin op x' y')
      | .eql, some k => some (.eq false t k x' y')
      | .neq, some k => some (.eq true t k x' y')
      | _, _ => some (.bin op x' y')
    | _, _ => none
  | .unOp op _ x => (cx x).map (.un op)
  | .convert s d x => match P.underlying s, P.underlying d, cx x with
    | some (.int _), some (.int k), some x => some (.convI k x)
    | some (.slice e), some .string, some x => match P.underlying e with
      | some (.int .u8) => some (.strOf x)
      | _ => none
    | some (.pointer t), some .unsafePointer, some x => match sizeC P t with
      | some (_ + 1) => some (.toUnsafe x)
      | _ => none
    | _, _, _ => none
  | .slice t x lo hi mx => match P.underlying t, cx x, cxo lo, cxo hi, cxo mx with
    | some .string, some x, some l, some h, some none => some (.sliceS x l h)
    | some (.slice e), some x, some l, some h, some m => if hi.isNone && mx.isSome then none else (sizeC P e).map fun sz => .slice sz x l h m
    | some (.array n e), some x, some l, some h, some none => (sizeC P e).map fun sz => .sliceA n sz x l h
    | _, _, _, _, _ => none
  | .fieldAddr s x f => match P.underlying s, cx x with
    | some (.struct fs), some x => match fs[f]? with
      | some fl => match sizeC P fl.type with
        | some (_ + 1) => some (.addr fl.offset x)
        | _ => none
      | none => none
    | _, _ => none
  | .field s x f => match P.underlying s, cx x with
    | some (.struct fs), some x => match fs[f]? with
      | some fl => match aggC P fl.type with
        | some true => (sizeC P fl.type).map fun n => .fld fl.offset (some n) x
        | some false => some (.fld fl.offset none x)
        | none => none
      | none => none
    | _, _ => none
  | .indexAddr t x i => match P.underlying t, cx x, cx i with
    | some (.slice e), some x, some i => (sizeC P e).map fun sz => .iaddrS sz x i
    | some (.array n e), some x, some i => (sizeC P e).map fun sz => .iaddrA n sz x i
    | _, _, _ => none
  | .index t x i => match P.underlying t, cx x, cx i with
    | some .string, some x, some i => some (.idxS x i)
    | some (.array n e), some x, some i => match sizeC P e, aggC P e with
      | some sz, some a => some (.idxA n sz a x i)
      | _, _ => none
    | _, _, _ => none
  | .lookup t x i ok => match P.underlying t, cx x, cx i with
    | some (.map key e), some x, some i => (zeroC P e).map fun z => .lookup key z x i ok
    | _, _, _ => none
  | .mapUpdate t m k v | .insert t m k v => match P.underlying t, cx m, cx k, cx v with
    | some (.map key _), some m, some k, some v => some (.mapUpd key m k v)
    | _, _, _, _ => none
  | .mapEntry t m k => match P.underlying t, cx m, cx k with
    | some (.map key e), some m, some k => (zeroC P e).map fun z => .mapEntry key z m k
    | _, _, _ => none
  | .entryStore _ m s v => match cx m, cx s, cx v with
    | some m, some s, some v => some (.entryStore m s v)
    | _, _, _ => none
  | .makeMap _ none => some .mkmap
  | .range t x => match P.underlying t, cx x with
    | some .string, some x => some (.rangeS x)
    | _, _ => none
  | .next it true => (cx it).map .nextS
  | .extract t i => (cx t).map fun x => .ext x i
  | .makeSlice t l c => match P.underlying t, cx l, cx c with
    | some (.slice e), some l, some c => match sizeC P e, bytesC P e, zeroC P e with
      | some sz, some by', some z => some (.mksl e sz by' z.cells l c)
      | _, _, _ => none
    | _, _, _ => none
  | .makeFunc f a b => match cxs a.toList, cxs b.toList with
    | some a, some b => some (.fn f a b)
    | _, _ => none
  | .call c => compCall P c
  | _ => none
end

/-! ### What they do -/

/-- A run that touches no world. -/
def pureRun {α : Type} (P : Program) : Sem α → Option α
  | .pure a => some a
  | .program k => pureRun P (k P)
  | .mark _ k => pureRun P k
  | _ => none

/-- A value without an address, as the model has it. -/
def conc0 : AV → Option Value
  | .bool b => some (.bool b)
  | .int k n => some (.int k n)
  | .str s => some (.string ⟨⟨s⟩⟩)
  | _ => none
def conc0L : List AV → Option (List Value)
  | [] => some []
  | v :: vs => match conc0 v, conc0L vs with
    | some a, some l => some (a :: l)
    | _, _ => none
def conc : AV → Option Value
  | .agg cs => (conc0L cs).map fun l => .agg l.toArray
  | v => conc0 v

def intBin (op : BinOp) (k : IntKind) (a b : Int) : Option AV :=
  match op with
  | .add => some (.int k (k.wrap (a + b)))
  | .sub => some (.int k (k.wrap (a - b)))
  | .mul => some (.int k (k.wrap (a * b)))
  | .quo => if b = 0 then none else some (.int k (k.wrap (a.tdiv b)))
  | .rem => if b = 0 then none else some (.int k (a.tmod b))
  | .and => some (.int k (k.wrap (BitVec.ofInt k.bits a &&& BitVec.ofInt k.bits b).toNat))
  | .or => some (.int k (k.wrap (BitVec.ofInt k.bits a ||| BitVec.ofInt k.bits b).toNat))
  | .xor => some (.int k (k.wrap (BitVec.ofInt k.bits a ^^^ BitVec.ofInt k.bits b).toNat))
  | .andNot => some (.int k (k.wrap (BitVec.ofInt k.bits a &&& ~~~ BitVec.ofInt k.bits b).toNat))
  | .eql => some (.bool (a == b))
  | .neq => some (.bool (a != b))
  | .lss => some (.bool (a < b))
  | .leq => some (.bool (a ≤ b))
  | .gtr => some (.bool (a > b))
  | .geq => some (.bool (a ≥ b))
  | _ => none

def strBin (op : BinOp) (a b : List UInt8) : Option AV :=
  match op with
  | .add => if a.length + b.length ≤ 9223372036854775807 then some (.str (a ++ b)) else none
  | .eql => some (.bool (a == b))
  | .neq => some (.bool !(a == b))
  | .lss => some (.bool (Op.bytesLess a b))
  | .leq => some (.bool (Op.bytesLess a b || a == b))
  | .gtr => some (.bool !(Op.bytesLess a b || a == b))
  | .geq => some (.bool !(Op.bytesLess a b))
  | _ => none

def binEv (op : BinOp) : AV → AV → Option AV
  | .int k a, .int yk b => match op with
    | .shl => if b < 0 then none else some (.int k (k.wrap (a * 2 ^ (min b.toNat k.bits))))
    | .shr => if b < 0 then none else some (.int k (a.fdiv (2 ^ (min b.toNat k.bits))))
    | op => if k = yk then intBin op k a b else none
  | .str a, .str b => strBin op a b
  | _, _ => none

/-- '==' on what is no number and no text. -/
def eqEv (P : Program) (t : TypeId) (k : TypeDesc) (x y : AV) : Option Bool :=
  match k, x, y with
  | .bool, .bool a, .bool b => some (a == b)
  | .pointer _, .nilptr, .nilptr => some true
  | .pointer _, .nilptr, .ptr _ _ => some false
  | .pointer _, .ptr _ _, .nilptr => some false
  | .slice _, .nilslice, .nilslice => some true
  | .slice _, .nilslice, .slice _ _ _ _ => some false
  | .slice _, .slice _ _ _ _, .nilslice => some false
  | .map _ _, .nilmap, .nilmap => some true
  | .map _ _, .nilmap, .map _ => some false
  | .map _ _, .map _, .nilmap => some false
  | .func _ _ _, .nilfn, .nilfn => some true
  | .func _ _ _, .nilfn, .fn _ _ _ => some false
  | .func _ _ _, .fn _ _ _, .nilfn => some false
  | _, .agg a, .agg b => match conc (.agg a), conc (.agg b) with
    | some A, some B => pureRun P (do eqGuard .eql t (.tmp 0) (.tmp 0) A B; Op.equal t A B)
    | _, _ => none
  | _, _, _ => none

def fillA (place : List (Nat × Nat)) (cells : List AV) : List (Nat × AV) → Option (List AV)
  | [] => some cells
  | (i, v) :: rest => match place[i]? with
    | none => none
    | some (off, size) => if v.cells.length = size ∧ off + size ≤ cells.length then fillA place (splice cells off v.cells) rest else none

def boundEv (d : Nat) (y : Nat) : Option AV → Option Nat
  | none => some d
  | some (.int _ i) => if 0 ≤ i ∧ i ≤ y then some i.toNat else none
  | some _ => none

/-- Of a key among a map's entries: none: it can't be told; some none: it isn't there. -/
def findEv (P : Program) (key : TypeId) (k : AV) (es : List AEntry) : Option (Option Nat) :=
  match conc k, es.mapM (fun e => conc e.key) with
  | some K, some Ks => match pureRun P (Instr.checkKey true 10000 key K), pureRun P (Instr.checkKey false 10000 key K) with
    | some _, some _ => (pureRun P (Instr.findKey key K (Ks.map fun x => ⟨x, .nilFunc, 0⟩))).map fun r => r.map (·.1)
    | _, _ => none
  | _, _ => none

def staysEv (old new : AV) : Bool := match conc old, conc new with
  | some a, some b => Instr.sameBits 10000 a b
  | _, _ => false

def modAt {α : Type} (l : List α) (i : Nat) (f : α → α) : List α := match l[i]? with
  | some x => l.set i (f x)
  | none => l

def srcEv (R : Ro) (H : AH) (sz : Nat) : AV → Option (List AV × Nat)
  | .nilslice => some ([], 0)
  | .slice l off n _ => (readN R H (n * sz) l off).map fun c => (c, n)
  | .str s => if sz = 1 then some (s.map fun b => .int .u8 b.toNat, s.length) else none
  | _ => none

/-- 'clear' of cells: the zero's cells, again and again. -/
def zerosEv (z : List AV) (n : Nat) : List AV := match n with
  | 0 => []
  | n + 1 => z ++ zerosEv z n

def appendEv (R : Ro) (H : AH) (t : TypeId) (sz by' : Nat) (s x : AV) : Option (AV × AH) :=
  match srcEv R H sz x with
  | none => none
  | some (new, n) =>
    match s with
    | .nilslice => if n = 0 then some (.nilslice, H) else
      if n * by' ≤ 140737488355328 ∧ sz ≠ 0 ∧ by' ≠ 0 ∧ new.all AV.oneCell = true then some (.slice (.mu H.length) 0 n (.opn 0), H ++ [.row new t sz]) else none
    | .slice l off len cap =>
      let need := len + n
      if need * by' ≤ 140737488355328 ∧ sz ≠ 0 ∧ by' ≠ 0 ∧ new.all AV.oneCell = true then
        match cap with
        | .known c =>
          if need ≤ c then
            if n = 0 then some (.slice l off need (.known c), H) else
            match l with
            | .mu i => (writeN H i (off + len * sz) new).map fun H' => (.slice l off need (.known c), H')
            | .ro _ => none
          else match readN R H (len * sz) l off with
            | some old => some (.slice (.mu H.length) 0 need (.opn 0), H ++ [.row (old ++ new) t sz])
            | none => none
        | .opn eo => match l with
          | .mu i => match H[i]? with
            | some (.row c t' sz') =>
              if t' = t ∧ sz' = sz ∧ off = eo * sz ∧ off + len * sz ≤ c.length then
                if off + need * sz ≤ c.length then (writeN H i (off + len * sz) new).map fun H' => (.slice l off need (.opn eo), H')
                else some (.slice (.mu H.length) 0 need (.opn 0), H.set i .dead ++ [.row ((c.drop off).take (len * sz) ++ new) t sz])
              else none
            | _ => none
          | .ro _ => none
      else none
    | _ => none

def sliceEv (H : AH) (sz : Nat) (s : AV) (lo hi mx : Option AV) : Option (AV × AH) :=
  match s with
  | .nilslice => match boundEv 0 0 mx with
    | some m => match boundEv 0 m hi with
      | some h => match boundEv 0 h lo with
        | some _ => some (.nilslice, H)
        | none => none
      | none => none
    | none => none
  | .slice l off len (.known c) => match boundEv c c mx with
    | some m => match boundEv len m hi with
      | some h => match boundEv 0 h lo with
        | some lw => some (.slice l (if m = lw then off else off + lw * sz) (h - lw) (.known (m - lw)), H)
        | none => none
      | none => none
    | none => none
  | .slice (.mu i) off len (.opn eo) => match H[i]? with
    | some (.row c t sz') =>
      let top := (c.length - off) / sz
      if sz' = sz ∧ off = eo * sz ∧ sz ≠ 0 ∧ off ≤ c.length then
        match mx with
        | some mv => match boundEv 0 top (some mv) with
          | some m => match boundEv len m hi with
            | some h => match boundEv 0 h lo with
              | some lw => some (.slice (.mu i) (if m = lw then off else off + lw * sz) (h - lw) (.known (m - lw)), H)
              | none => none
            | none => none
          | none => none
        | none => match boundEv len top hi with
          | some h => if h ≤ top then match boundEv 0 h lo with
            | some lw =>
              if lw = 0 then some (.slice (.mu i) off h (.opn eo), H)
              else if lw < h then some (.slice (.mu i) (off + lw * sz) (h - lw) (.opn (eo + lw)), H)
              else some (.slice (.mu H.length) 0 0 (.opn 0), H ++ [.dead])
            | none => none
            else none
          | none => none
      else none
    | _ => none
  | _ => none

def foldI (f : Int → Int → Int) (k : IntKind) : Int → List AV → Option AV
  | a, [] => some (.int k a)
  | a, .int k' b :: l => if k' = k then foldI f k (f a b) l else none
  | _, _ => none

def bytesOf : List AV → Option (List UInt8)
  | [] => some []
  | .int .u8 n :: l => if 0 ≤ n then (bytesOf l).map fun r => UInt8.ofNat n.toNat :: r else none
  | _ => none

/-- '==' with the literal nil of an interface, or else. -/
def eqX (P : Program) (t : TypeId) (k : TypeDesc) (e : Env) (x y : X) : Option Bool :=
  match k, x.ev e, y with
  | .interface _, .niface, .c .niface => some true
  | .interface _, .iface _ _, .c .niface => some false
  | k, a, y => eqEv P t k a (y.ev e)

def AOp.eval (P : Program) (R : Ro) (e : Env) (H : AH) : AOp → Option (AV × AH)
  | .mv x => some (x.ev e, H)
  | .pick c a b => match c.ev e with
    | .bool t => some (if t then a.ev e else b.ev e, H)
    | _ => none
  | .box t x => if (x.ev e).cells.all AV.oneCell then some (.ptr (.mu H.length) 0, H ++ [.cells (x.ev e).cells t]) else none
  | .alloc t z => if z.all AV.oneCell then some (.ptr (.mu H.length) 0, H ++ [.cells z t]) else none
  | .build z pl ps => (fillA pl z (ps.map fun p => (p.1, p.2.ev e))).map fun c => (.agg c, H)
  | .bslice t sz ln z ps => match fillA ((List.range ln).map fun i => (i * sz, sz)) (zerosEv z ln) (ps.map fun p => (p.1, p.2.ev e)) with
    | some c => if z.length = sz ∧ c.all AV.oneCell then some (.slice (.mu H.length) 0 ln (.known ln), H ++ [.cells c t]) else none
    | none => none
  | .load n x => match x.ev e with
    | .ptr l off => match n with
      | none => (read1 R H l off).map fun v => (v, H)
      | some n => (readN R H n l off).map fun vs => (.agg vs, H)
    | _ => none
  | .store n x v => match x.ev e with
    | .ptr (.mu i) off => if (v.ev e).cells.length = n then (writeN H i off (v.ev e).cells).map fun H' => (AV.undef, H') else none
    | _ => none
  | .nilck x => match x.ev e with
    | .ptr l off => some (.ptr l off, H)
    | .fn (.func f) a c => some (.fn (.func f) a c, H)
    | _ => none
  | .bin op x y => (binEv op (x.ev e) (y.ev e)).map fun v => (v, H)
  | .eq neg t k x y => (eqX P t k e x y).map fun b => (.bool (if neg then !b else b), H)
  | .un op x => match op, x.ev e with
    | .not, .bool b => some (.bool !b, H)
    | .neg, .int k n => some (.int k (k.wrap (0 - n)), H)
    | _, _ => none
  | .convI k x => match x.ev e with
    | .int _ n => some (.int k (k.wrap n), H)
    | _ => none
  | .strOf x => match x.ev e with
    | .nilslice => some (.str [], H)
    | .slice l off n _ => match readN R H n l off with
      | some c => (bytesOf c).map fun s => (.str s, H)
      | none => none
    | _ => none
  | .sliceS x lo hi => match x.ev e with
    | .str s => match boundEv s.length s.length (hi.map (X.ev e)) with
      | some h => match boundEv 0 h (lo.map (X.ev e)) with
        | some l => some (.str ((s.take h).drop l), H)
        | none => none
      | none => none
    | _ => none
  | .slice sz x lo hi mx => sliceEv H sz (x.ev e) (lo.map (X.ev e)) (hi.map (X.ev e)) (mx.map (X.ev e))
  | .sliceA n sz x lo hi => match x.ev e with
    | .ptr l off => match boundEv n n (hi.map (X.ev e)) with
      | some h => match boundEv 0 h (lo.map (X.ev e)) with
        | some lw => some (.slice l (if n = lw then off else off + lw * sz) (h - lw) (.known (n - lw)), H)
        | none => none
      | none => none
    | _ => none
  | .addr d x => match x.ev e with
    | .ptr l off => some (.ptr l (off + d), H)
    | _ => none
  | .fld off n x => match x.ev e with
    | .agg cs => match n with
      | some n => some (.agg ((cs.drop off).take n), H)
      | none => (cs[off]?).map fun v => (v, H)
    | _ => none
  | .iaddrS sz x i => match x.ev e, i.ev e with
    | .slice l off ln _, .int _ j => if 0 ≤ j ∧ j < ln then some (.ptr l (off + j.toNat * sz), H) else none
    | _, _ => none
  | .iaddrA ln sz x i => match x.ev e, i.ev e with
    | .ptr l off, .int _ j => if 0 ≤ j ∧ j < ln then some (.ptr l (off + j.toNat * sz), H) else none
    | _, _ => none
  | .idxS x i => match x.ev e, i.ev e with
    | .str s, .int _ j => if 0 ≤ j then (s[j.toNat]?).map fun b => (.int .u8 b.toNat, H) else none
    | _, _ => none
  | .idxA ln sz ag x i => match x.ev e, i.ev e with
    | .agg cs, .int _ j => if 0 ≤ j ∧ j < ln then (if ag then some (.agg ((cs.drop (j.toNat * sz)).take sz), H) else (cs[j.toNat * sz]?).map fun v => (v, H)) else none
    | _, _ => none
  | .lookup key z x i ok => match x.ev e with
    | .nilmap => match findEv P key (i.ev e) [] with
      | some _ => some (if ok then .tuple [z, .bool false] else z, H)
      | none => none
    | .map r => match H[r]? with
      | some (.map es _) => match findEv P key (i.ev e) es with
        | some (some j) => match es[j]? with
          | some en => some (if ok then .tuple [en.val, .bool true] else en.val, H)
          | none => none
        | some none => some (if ok then .tuple [z, .bool false] else z, H)
        | none => none
      | _ => none
    | _ => none
  | .mapUpd key m k v => match m.ev e with
    | .map r => match H[r]? with
      | some (.map es clock) => match findEv P key (k.ev e) es with
        | some (some j) => match es[j]? with
          | some en => if staysEv en.key (k.ev e) then some (AV.undef, H.set r (.map (es.set j ⟨k.ev e, v.ev e, en.born⟩) clock)) else none
          | none => none
        | some none => some (AV.undef, H.set r (.map (es ++ [⟨k.ev e, v.ev e, clock⟩]) (clock + 1)))
        | none => none
      | _ => none
    | _ => none
  | .mapEntry key z m k => match m.ev e with
    | .map r => match H[r]? with
      | some (.map es clock) => match findEv P key (k.ev e) es with
        | some (some j) => match es[j]? with
          | some en => if staysEv en.key (k.ev e) then some (.tuple [en.val, .int .i64 en.born], H.set r (.map (es.set j ⟨k.ev e, en.val, en.born⟩) clock)) else none
          | none => none
        | some none => some (.tuple [z, .int .i64 clock], H.set r (.map (es ++ [⟨k.ev e, z, clock⟩]) (clock + 1)))
        | none => none
      | _ => none
    | _ => none
  | .entryStore m s v => match m.ev e, s.ev e with
    | .map r, .int _ born => match H[r]? with
      | some (.map es clock) => match es.findIdx? (fun x => (x.born : Int) == born) with
        | some j => match es[j]? with
          | some en => some (AV.undef, H.set r (.map (es.set j ⟨en.key, v.ev e, en.born⟩) clock))
          | none => none
        | none => none
      | _ => none
    | _, _ => none
  | .mkmap => some (.map H.length, H ++ [.map [] 0])
  | .mapDel key m k => match m.ev e with
    | .nilmap => match findEv P key (k.ev e) [] with
      | some _ => some (AV.undef, H)
      | none => none
    | .map r => match H[r]? with
      | some (.map es clock) => match findEv P key (k.ev e) es with
        | some (some j) => some (AV.undef, H.set r (.map (es.eraseIdx j) clock))
        | some none => some (AV.undef, H)
        | none => none
      | _ => none
    | _ => none
  | .mapClear m => match m.ev e with
    | .nilmap => some (AV.undef, H)
    | .map r => match H[r]? with
      | some (.map _ clock) => some (AV.undef, H.set r (.map [] clock))
      | _ => none
    | _ => none
  | .rangeS x => match x.ev e with
    | .str s => some (.ptr (.mu H.length) 0, H ++ [.siter s 0])
    | _ => none
  | .nextS x => match x.ev e with
    | .ptr (.mu i) 0 => match H[i]? with
      | some (.siter s pos) => if pos < s.length then
          let d := Utf8.decode ⟨⟨s⟩⟩ pos
          some (.tuple [.bool true, .int .i64 pos, .int .i32 d.1], H.set i (.siter s (pos + d.2)))
        else some (.tuple [.bool false], H)
      | _ => none
    | _ => none
  | .ext x i => match x.ev e with
    | .tuple vs => (vs[i]?).map fun v => (v, H)
    | _ => none
  | .mksl t sz by' z l c => match l.ev e, c.ev e with
    | .int _ l, .int _ c => if 0 ≤ l ∧ l ≤ c ∧ by' * c ≤ 281474976710656 ∧ c ≤ 9223372036854775807 ∧ z.length = sz ∧ z.all AV.oneCell then
        some (.slice (.mu H.length) 0 l.toNat (.known c.toNat), H ++ [.cells (zerosEv z c.toNat) t]) else none
    | _, _ => none
  | .fn f a b => some (.fn f (a.map (X.ev e)) (b.map (X.ev e)), H)
  | .lenS x => match x.ev e with
    | .str s => some (.int .i64 s.length, H)
    | _ => none
  | .lenL x => match x.ev e with
    | .nilslice => some (.int .i64 0, H)
    | .slice _ _ n _ => some (.int .i64 n, H)
    | _ => none
  | .lenM x => match x.ev e with
    | .nilmap => some (.int .i64 0, H)
    | .map r => match H[r]? with
      | some (.map es _) => some (.int .i64 es.length, H)
      | _ => none
    | _ => none
  | .cap x => match x.ev e with
    | .nilslice => some (.int .i64 0, H)
    | .slice _ _ _ (.known c) => some (.int .i64 c, H)
    | _ => none
  | .append t sz by' s x => appendEv R H t sz by' (s.ev e) (x.ev e)
  | .copy sz d s => match d.ev e with
    | .nilslice => match s.ev e with
      | .nilslice | .slice _ _ _ _ | .str _ => some (.int .i64 0, H)
      | _ => none
    | .slice l off dn _ => match s.ev e with
      | .nilslice => some (.int .i64 0, H)
      | .slice l' off' sn _ => match readN R H (min sn dn * sz) l' off' with
        | some c => match l with
          | .mu i => (writeN H i off c).map fun H' => (.int .i64 (min sn dn), H')
          | .ro _ => if c = [] then some (.int .i64 (min sn dn), H) else none
        | none => none
      | .str s => if sz = 1 then match l with
          | .mu i => (writeN H i off ((s.take (min s.length dn)).map fun b => .int .u8 b.toNat)).map fun H' => (.int .i64 (min s.length dn), H')
          | .ro _ => none
        else none
      | _ => none
    | _ => none
  | .clearS sz z x => match x.ev e with
    | .nilslice => some (AV.undef, H)
    | .slice (.mu i) off n _ => if z.length = sz then (writeN H i off (zerosEv z n)).map fun H' => (AV.undef, H') else none
    | _ => none
  | .minI x xs => match x.ev e with
    | .int k a => (foldI (fun x y => if y < x then y else x) k a (xs.map (X.ev e))).map fun v => (v, H)
    | _ => none
  | .maxI x xs => match x.ev e with
    | .int k a => (foldI (fun x y => if y > x then y else x) k a (xs.map (X.ev e))).map fun v => (v, H)
    | _ => none
  | .atom k xs => match k, xs.map (X.ev e) with
    | .load k, [.ptr l off] => match read1 R H l off with
      | some (.int k' n) => if k' = k then some (.int k n, H) else none
      | _ => none
    | .store, [.ptr (.mu i) off, .int k y] => match read1 R H (.mu i) off with
      | some _ => (writeN H i off [.int k y]).map fun H' => (AV.undef, H')
      | none => none
    | .add k, [.ptr (.mu i) off, .int k2 y] => match read1 R H (.mu i) off with
      | some (.int k' x) => if k' = k ∧ k2 = k then (writeN H i off [.int k (k.wrap (x + y))]).map fun H' => (.int k (k.wrap (x + y)), H') else none
      | _ => none
    | .cas k, [.ptr (.mu i) off, .int k1 o, .int k2 y] => match read1 R H (.mu i) off with
      | some (.int k' x) => if k' = k ∧ k1 = k ∧ k2 = k then (if x = o then (writeN H i off [.int k y]).map fun H' => (.bool true, H') else some (.bool false, H)) else none
      | _ => none
    | .disable, [] => some (AV.undef, H)
    | .enable, [] => some (AV.undef, H)
    | .acquire, [.ptr _ _] => some (AV.undef, H)
    | .releaseMerge, [.ptr _ _] => some (AV.undef, H)
    | _, _ => none
  | .toUnsafe x => match x.ev e with
    | .ptr l off => match read1 R H l off with
      | some _ => some (.ptr l off, H)
      | none => none
    | _ => none
  | .bad => none
  | .call _ _ => none
  | .callv _ _ => none


/-- The operations that only look. -/
def AOp.quiet : AOp → Bool
  | .mv _ | .pick _ _ _ | .load _ _ | .nilck _ | .bin _ _ _ | .eq _ _ _ _ _ | .un _ _ | .convI _ _ | .strOf _ | .sliceS _ _ _ | .sliceA _ _ _ _ _ | .addr _ _ | .fld _ _ _ | .iaddrS _ _ _ | .iaddrA _ _ _ _
  | .idxS _ _ | .idxA _ _ _ _ _ | .lookup _ _ _ _ _ | .ext _ _ | .fn _ _ _ | .lenS _ | .lenL _ | .lenM _ | .cap _ | .minI _ _ | .maxI _ _ | .build _ _ _ => true
  | _ => false

def AOp.isCall : AOp → Bool
  | .call _ _ | .callv _ _ => true
  | _ => false

end Am
