/- CommandNames, cut where the number is known: what follows is evaluated for each remainder. -/
import Derived.Test.YthcpfmibcoeleaaDoorCtrs
import Derived.Test.YthcpfmibcoeleaaDoorAmSym
namespace Go.Proofs.YthcpfmibcoeleaaDoor.Names
open Go Go.RowKit Am
set_option maxRecDepth 100000
set_option linter.unusedSimpArgs false
set_option linter.unusedVariables false
noncomputable section
theorem awake_ev (m : Int) (l0 o0 l1 o1 : Nat) : evGo Tryd.prog (Laid.ro m l0 o0 l1 o1) Fns.tab Fns.ctr 3000 9 = true := by kernel_rfl
theorem awake (m : Int) (l0 o0 l1 o1 : Nat) (H : AH) : ACalls Tryd.prog (Laid.ro m l0 o0 l1 o1) 9 [] H fun v H' => H' = H ∧ v = .bool true := ACalls.go Fns.mixed Fns.tab_ok (Fns.ctr_ok m l0 o0 l1 o1) (awake_ev m l0 o0 l1 o1) H
def tab2 : FuncId → Option AFn
  | 9 => none
  | f => Fns.tab f
theorem tab2_ok : ∀ f af, tab2 f = some af → FnOk Tryd.prog f af := by
  intro f af h
  unfold tab2 at h
  split at h
  · cases h
  · exact Fns.tab_ok f af h
def ctr2 : FuncId → Option Ctr
  | 9 => some ctrTrue
  | f => Fns.ctr f
theorem ctr2_ok (m : Int) (l0 o0 l1 o1 : Nat) : ∀ f g, ctr2 f = some g → CtrOk Tryd.prog (Laid.ro m l0 o0 l1 o1) f g := by
  intro f g h
  unfold ctr2 at h
  split at h
  · cases h
    exact ctrTrue_ok (awake m l0 o0 l1 o1)
  · exact Fns.ctr_ok m l0 o0 l1 o1 f g h
def pA : AC := Fns.a7.body.fst
def pB : AC := Fns.a7.body.snd.fst
def pC : AC := Fns.a7.body.snd.snd.fst
def pD : AC := Fns.a7.body.snd.snd.snd.fst
def rest : AC := Fns.a7.body.snd.snd.snd.snd
theorem body_eq : Fns.a7.body = .seq pA (.seq pB (.seq pC (.seq pD rest))) := rfl
def strs : List AV := Fns.table.map fun p => AV.str p.1
theorem names_ev (R : Ro) : (runM Tryd.prog R Fns.tab noCtr 2000).call 21 [] .nil 0 (isRowOf 159 53 strs 9 1) = true := by kernel_rfl
theorem strs_ren : (renL [] strs).isSome = true := by
  unfold strs
  generalize Fns.table = tb
  induction tb with
  | nil => rfl
  | cons p tb ih =>
    obtain ⟨X, hX⟩ := Option.isSome_iff_exists.1 ih
    rw [List.map_cons, renL_cons_mk (x := .string ⟨⟨p.1⟩⟩) (by simp [ren]) hX]; rfl
theorem names_acalls (R : Ro) (H : AH) : ACalls Tryd.prog R 21 [] H fun v H' => v = .slice (.mu H.length) 0 53 (.opn 0) ∧ H' = H ++ [.row strs 9 1] :=
  ACalls.rowAnywhere rfl strs_ren (((run_ok Fns.mixed Fns.tab_ok noCtr_ok 2000).2 21 [] .nil 0 _ [] sim_nil (names_ev R)).mono fun v H1 ⟨h, n, s, hk⟩ => isRowOf_ok s hk) H
def sl : AV := .slice (.mu 0) 0 53 (.opn 0)
/-- The temporaries where the remainder is known. -/
def chain (n r : Int) : ET :=
  BT.set AV.undef (BT.set AV.undef (BT.set AV.undef (BT.set AV.undef (BT.set AV.undef (BT.set AV.undef (BT.set AV.undef (BT.set AV.undef (BT.set AV.undef (BT.set AV.undef (BT.set AV.undef (BT.set AV.undef .nil 0 (.int .i64 n)) 2 (.bool false)) 12 sl) 3 sl) 13 sl) 14 (.int .i64 53)) 15 (.bool false)) 16 (.int .i64 n)) 17 sl) 18 (.int .i64 53)) 19 (.int .i64 r)) 4 (.int .i64 r)
def EV (m : Int) (l0 o0 l1 o1 : Nat) (n r : Int) : Bool := (chainK n r fun e => codeF Tryd.prog (Laid.ro m l0 o0 l1 o1) (runM Tryd.prog (Laid.ro m l0 o0 l1 o1) tab2 ctr2 3000) rest e (.node (.row strs 9 1) .nil .nil) 1 (retK Fns.a7.res))
where chainK (n r : Int) (k : ET → Bool) : Bool := BT.setK AV.undef .nil 0 (.int .i64 n) fun e => BT.setK AV.undef e 2 (.bool false) fun e => BT.setK AV.undef e 12 sl fun e => BT.setK AV.undef e 3 sl fun e => BT.setK AV.undef e 13 sl fun e =>
    BT.setK AV.undef e 14 (.int .i64 53) fun e => BT.setK AV.undef e 15 (.bool false) fun e => BT.setK AV.undef e 16 (.int .i64 n) fun e => BT.setK AV.undef e 17 sl fun e => BT.setK AV.undef e 18 (.int .i64 53) fun e => BT.setK AV.undef e 19 (.int .i64 r) fun e => BT.setK AV.undef e 4 (.int .i64 r) k
theorem EV_eq (m : Int) (l0 o0 l1 o1 : Nat) (n r : Int) : EV m l0 o0 l1 o1 n r = codeF Tryd.prog (Laid.ro m l0 o0 l1 o1) (runM Tryd.prog (Laid.ro m l0 o0 l1 o1) tab2 ctr2 3000) rest (chain n r) (.node (.row strs 9 1) .nil .nil) 1 (retK Fns.a7.res) := by
  unfold EV EV.chainK chain
  simp only [BT.setK_eq]
theorem rest_ok (m : Int) (l0 o0 l1 o1 : Nat) (n r : Int) (h : EV m l0 o0 l1 o1 n r = true) : AWp Tryd.prog (Laid.ro m l0 o0 l1 o1) Fns.a7.nt rest (QRet (Laid.ro m l0 o0 l1 o1) Fns.a7.res fun v _ => v = .bool true) (envT (chain n r)) [.row strs 9 1] := by
  rw [EV_eq] at h
  refine ((run_ok Fns.mixed tab2_ok (ctr2_ok m l0 o0 l1 o1) 3000).1 rest _ _ _ _ _ [.row strs 9 1] ?_ h).mono fun ex env H hh => retK_ok hh
  have := sim_nil.push (.row strs 9 1)
  exact this
end
end Go.Proofs.YthcpfmibcoeleaaDoor.Names
