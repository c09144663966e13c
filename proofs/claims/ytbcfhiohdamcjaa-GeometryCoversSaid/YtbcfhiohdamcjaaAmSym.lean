/- What code without loops must come to, as one proposition. -/
import Derived.Test.YtbcfhiohdamcjaaAmEval
set_option linter.unusedSimpArgs false
set_option linter.unusedVariables false
set_option linter.unusedSectionVars false
set_option linter.unnecessarySimpa false
namespace Am
open Go Go.RowKit
/-- What follows a step. -/
def Kont (d : Option Nat) (K : Env → AH → Prop) (e : Env) (v : AV) (H : AH) : Prop := K (e.put d v) H
def QNorm (Q : Exit → Env → AH → Prop) (e : Env) (H : AH) : Prop := Q .normal e H
def bindK (r : Option (AV × AH)) (F : AV → AH → Prop) : Prop := match r with
  | some (v, H) => F v H
  | none => False
@[simp] theorem bindK_some (v : AV) (H : AH) (F : AV → AH → Prop) : bindK (some (v, H)) F = F v H := of_eq_true (eq_self _)
@[simp] theorem bindK_none (F : AV → AH → Prop) : bindK none F = False := of_eq_true (eq_self _)
def guardK (w : Option Bool) (A B : Env → AH → Prop) (e : Env) (H : AH) : Prop := match w with
  | some true => A e H
  | some false => B e H
  | none => False
@[simp] theorem guardK_true (A B : Env → AH → Prop) (e : Env) (H : AH) : guardK (some true) A B e H = A e H := of_eq_true (eq_self _)
@[simp] theorem guardK_false (A B : Env → AH → Prop) (e : Env) (H : AH) : guardK (some false) A B e H = B e H := of_eq_true (eq_self _)
def condK (v : AV) (A B : Env → AH → Prop) (e : Env) (H : AH) : Prop := match v with
  | .bool t => (t = true → A e H) ∧ (t = false → B e H)
  | _ => False
@[simp] theorem condK_true (A B : Env → AH → Prop) (e : Env) (H : AH) : condK (.bool true) A B e H = A e H := by simp [condK]
@[simp] theorem condK_false (A B : Env → AH → Prop) (e : Env) (H : AH) : condK (.bool false) A B e H = B e H := by simp [condK]
theorem condK_bool {t : Bool} {A B : Env → AH → Prop} {e : Env} {H : AH} (h1 : t = true → A e H) (h2 : t = false → B e H) : condK (.bool t) A B e H := ⟨h1, h2⟩
theorem condK_prop {p : Prop} [Decidable p] {A B : Env → AH → Prop} {e : Env} {H : AH} (h1 : p → A e H) (h2 : ¬ p → B e H) : condK (.bool (decide p)) A B e H :=
  ⟨fun h => h1 (of_decide_eq_true h), fun h => h2 (of_decide_eq_false h)⟩
def callK (P : Program) (R : Ro) (r : Option (FuncId × List AV)) (H : AH) (F : AV → AH → Prop) : Prop := match r with
  | some (f, as) => bodied P f = true ∧ ACalls P R f as H F
  | none => False
@[simp] theorem callK_some (P : Program) (R : Ro) (f : FuncId) (as : List AV) (H : AH) (F : AV → AH → Prop) : callK P R (some (f, as)) H F = (bodied P f = true ∧ ACalls P R f as H F) := of_eq_true (eq_self _)
section
variable (P : Program) (R : Ro) (nt : Nat)
def undefK (d : Option Nat) (K : Env → AH → Prop) (e : Env) (H : AH) : Prop := K (e.put d AV.undef) H
def stepS (o : AOper) (K : Env → AH → Prop) (e : Env) (H : AH) : Prop :=
  match o.op with
  | .call f xs => ACalls P R f (xs.map (X.ev e)) H (Kont o.dst K e)
  | .callv x xs => callK P R (fnArgs (x.ev e) (xs.map (X.ev e))) H (Kont o.dst K e)
  | op => bindK (op.eval P R e H) (Kont o.dst K e)
def runS : List AOper → (Env → AH → Prop) → Env → AH → Prop
  | [], K, e, H => K e H
  | o :: os, K, e, H => guardK (wantedA o e) (stepS P R o (runS os K)) (undefK o.dst (runS os K)) e H
theorem stepS_imp {o : AOper} {K K' : Env → AH → Prop} (hk : ∀ e H, K e H → K' e H) {e : Env} {H : AH} (h : stepS P R o K e H) : stepOp P R o K' e H := by
  refine stepOp_mono (K := K) hk ?_
  unfold stepS bindK callK at h
  unfold stepOp
  obtain ⟨d, g, op⟩ := o
  cases op <;> first
    | exact h
    | (dsimp only at h ⊢; split at h <;> first | (rename_i he; rw [he]; exact h) | exact h.elim)
theorem runS_imp : ∀ {os : List AOper} {K : Env → AH → Prop} {e : Env} {H : AH}, runS P R os K e H → runOps P R os K e H
  | [], K, e, H, h => h
  | o :: os, K, e, H, h => by
    simp only [runS, guardK] at h
    simp only [runOps]
    split at h
    · rename_i hw; rw [hw]; exact stepS_imp P R (fun e H => runS_imp) h
    · rename_i hw; rw [hw]; exact runS_imp h
    · exact h.elim
def wpE : AC → (Exit → Env → AH → Prop) → Env → AH → Prop
  | .skip, Q, e, H => Q .normal e H
  | .exit id, Q, e, H => Q (.exit id) e H
  | .ret, Q, e, H => Q .ret e H
  | .rangeF _ _ _ _, _, _, _ => False
  | .bad, _, _, _ => False
  | .seq x y, Q, e, H => wpE x (QThen (wpE y Q) Q) e H
  | .cond x a b, Q, e, H => condK (x.ev e) (wpE a Q) (wpE b Q) e H
  | .block id x, Q, e, H => wpE x (QBlock id Q) e H
  | .ops l, Q, e, H => runS P R l (QNorm Q) e H
  | .loop x, Q, e, H => AWp P R nt (.loop x) Q e H
  | .draw ds B, Q, e, H => AWp P R nt (.draw ds B) Q e H
end
section
variable {P : Program} {R : Ro} {nt : Nat}
theorem wpE_sound : ∀ (ac : AC) {Q : Exit → Env → AH → Prop} {e : Env} {H : AH}, wpE P R nt ac Q e H → AWp P R nt ac Q e H
  | .skip, _, _, _, h => AWp.skip h
  | .exit _, _, _, _, h => AWp.exit h
  | .ret, _, _, _, h => AWp.ret h
  | .rangeF _ _ _ _, _, _, _, h => h.elim
  | .bad, _, _, _, h => h.elim
  | .seq x y, Q, _, _, h => AWp.seq ((wpE_sound x h).mono fun ex e H hh => by
      cases ex with
      | normal => exact wpE_sound y hh
      | _ => exact hh)
  | .cond x a b, Q, e, H, h => by
    simp only [wpE, condK] at h
    split at h
    · rename_i t hx
      exact AWp.cond hx (fun h0 => wpE_sound a (h.1 h0)) (fun h0 => wpE_sound b (h.2 h0))
    · exact h.elim
  | .block id x, _, _, _, h => AWp.block (wpE_sound x h)
  | .ops l, _, _, _, h => AWp.ops (runS_imp P R h)
  | .loop _, _, _, _, h => h
  | .draw _ _, _, _, _, h => h
theorem ACalls.of_wpE {f : FuncId} {af : AFn} (hf : FnOk P f af) {args : List AV} {H : AH} {K : AV → AH → Prop} (hn : args.length ≤ af.nt) (h : wpE P R af.nt af.body (QRet R af.res K) (env0 args) H) : ACalls P R f args H K :=
  ACalls.of_body hf hn (wpE_sound _ h)
end
end Am
namespace Am
open Go
@[simp] theorem upd_app (e : Env) (t s : Nat) (v : AV) : (e.upd t v) s = if s = t then v else e s := of_eq_true (eq_self _)
@[simp] theorem env0_app (l : List AV) (t : Nat) : env0 l t = l.getD t AV.undef := of_eq_true (eq_self _)
section
variable {P : Program} {R : Ro} {nt : Nat}
@[simp] theorem int_beq_dec (a b : Int) : (a == b) = decide (a = b) := by by_cases h : a = b <;> simp [h]
@[simp] theorem int_bne_dec (a b : Int) : (a != b) = !decide (a = b) := by by_cases h : a = b <;> simp [h, bne]
@[simp] theorem Kont_app (d : Option Nat) (K : Env → AH → Prop) (e : Env) (v : AV) (H : AH) : Kont d K e v H = K (e.put d v) H := of_eq_true (eq_self _)
@[simp] theorem QNorm_app (Q : Exit → Env → AH → Prop) (e : Env) (H : AH) : QNorm Q e H = Q .normal e H := of_eq_true (eq_self _)
@[simp] theorem undefK_app (d : Option Nat) (K : Env → AH → Prop) (e : Env) (H : AH) : undefK d K e H = K (e.put d AV.undef) H := of_eq_true (eq_self _)
@[simp] theorem QThen_normal (K : Env → AH → Prop) (Q : Exit → Env → AH → Prop) (e : Env) (H : AH) : QThen K Q .normal e H = K e H := of_eq_true (eq_self _)
@[simp] theorem QThen_ret (K : Env → AH → Prop) (Q : Exit → Env → AH → Prop) (e : Env) (H : AH) : QThen K Q .ret e H = Q .ret e H := of_eq_true (eq_self _)
@[simp] theorem QThen_exit (K : Env → AH → Prop) (Q : Exit → Env → AH → Prop) (e : Env) (H : AH) (i : Nat) : QThen K Q (.exit i) e H = Q (.exit i) e H := of_eq_true (eq_self _)
@[simp] theorem QBlock_normal (i : Nat) (Q : Exit → Env → AH → Prop) (e : Env) (H : AH) : QBlock i Q .normal e H = Q .normal e H := of_eq_true (eq_self _)
@[simp] theorem QBlock_ret (i : Nat) (Q : Exit → Env → AH → Prop) (e : Env) (H : AH) : QBlock i Q .ret e H = Q .ret e H := of_eq_true (eq_self _)
@[simp] theorem QBlock_exit (i j : Nat) (Q : Exit → Env → AH → Prop) (e : Env) (H : AH) : QBlock i Q (.exit j) e H = if j = i then Q .normal e H else Q (.exit j) e H := of_eq_true (eq_self _)
@[simp] theorem runS_nil (K : Env → AH → Prop) (e : Env) (H : AH) : runS P R [] K e H = K e H := of_eq_true (eq_self _)
@[simp] theorem runS_cons (o : AOper) (os : List AOper) (K : Env → AH → Prop) (e : Env) (H : AH) : runS P R (o :: os) K e H = guardK (wantedA o e) (stepS P R o (runS P R os K)) (undefK o.dst (runS P R os K)) e H := of_eq_true (eq_self _)
@[simp] theorem stepS_app (o : AOper) (K : Env → AH → Prop) (e : Env) (H : AH) : stepS P R o K e H = match o.op with
  | .call f xs => ACalls P R f (xs.map (X.ev e)) H (Kont o.dst K e)
  | .callv x xs => callK P R (fnArgs (x.ev e) (xs.map (X.ev e))) H (Kont o.dst K e)
  | op => bindK (op.eval P R e H) (Kont o.dst K e) := of_eq_true (eq_self _)
@[simp] theorem wpE_skip (Q : Exit → Env → AH → Prop) (e : Env) (H : AH) : wpE P R nt .skip Q e H = Q .normal e H := of_eq_true (eq_self _)
@[simp] theorem wpE_exit (i : Nat) (Q : Exit → Env → AH → Prop) (e : Env) (H : AH) : wpE P R nt (.exit i) Q e H = Q (.exit i) e H := of_eq_true (eq_self _)
@[simp] theorem wpE_ret (Q : Exit → Env → AH → Prop) (e : Env) (H : AH) : wpE P R nt .ret Q e H = Q .ret e H := of_eq_true (eq_self _)
@[simp] theorem wpE_seq (x y : AC) (Q : Exit → Env → AH → Prop) (e : Env) (H : AH) : wpE P R nt (.seq x y) Q e H = wpE P R nt x (QThen (wpE P R nt y Q) Q) e H := of_eq_true (eq_self _)
@[simp] theorem wpE_cond (x : X) (a b : AC) (Q : Exit → Env → AH → Prop) (e : Env) (H : AH) : wpE P R nt (.cond x a b) Q e H = condK (x.ev e) (wpE P R nt a Q) (wpE P R nt b Q) e H := of_eq_true (eq_self _)
@[simp] theorem wpE_block (i : Nat) (x : AC) (Q : Exit → Env → AH → Prop) (e : Env) (H : AH) : wpE P R nt (.block i x) Q e H = wpE P R nt x (QBlock i Q) e H := of_eq_true (eq_self _)
@[simp] theorem wpE_ops (l : List AOper) (Q : Exit → Env → AH → Prop) (e : Env) (H : AH) : wpE P R nt (.ops l) Q e H = runS P R l (QNorm Q) e H := of_eq_true (eq_self _)
@[simp] theorem wpE_loop (x : AC) (Q : Exit → Env → AH → Prop) (e : Env) (H : AH) : wpE P R nt (.loop x) Q e H = AWp P R nt (.loop x) Q e H := of_eq_true (eq_self _)
@[simp] theorem QRet_ret (res : List RX) (K : AV → AH → Prop) (e : Env) (H : AH) : QRet R res K .ret e H = match resE R e H res with
    | some vs => K (resV vs) H
    | none => False := of_eq_true (eq_self _)
@[simp] theorem QRet_normal (res : List RX) (K : AV → AH → Prop) (e : Env) (H : AH) : QRet R res K .normal e H = match resE R e H res with
    | some vs => K (resV vs) H
    | none => False := of_eq_true (eq_self _)
end
end Am
attribute [simp] Am.eqX Am.wantedA Am.AOp.eval Am.X.ev Am.Env.put Am.resE Am.resE1 Am.resV Am.eqEv Am.read1 Am.readN Am.AO.content Am.binEv Am.intBin Am.AV.cells Am.AV.oneCell
namespace Am
open Go
/-- A loop that is left in its first round. -/
theorem AWp.loop_once {P : Program} {R : Ro} {nt : Nat} {x : AC} {Q : Exit → Env → AH → Prop} {e : Env} {H : AH} (h : AWp P R nt x (QThen (fun _ _ => False) Q) e H) : AWp P R nt (.loop x) Q e H := by
  refine AWp.loop_ind (fun n e' H' => n = 0 ∧ e' = e ∧ H' = H) (n := 0) ⟨rfl, rfl, rfl⟩ ?_
  rintro n e' H' ⟨rfl, rfl, rfl⟩
  refine h.mono fun ex e2 H2 hh => ?_
  cases ex <;> first | exact hh.elim | exact hh
end Am
