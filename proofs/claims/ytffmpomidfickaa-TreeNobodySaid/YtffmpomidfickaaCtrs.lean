/- What the evaluator takes as walked; the chapter's tree; the closed law. -/
import Derived.Test.YtffmpomidfickaaTrLPan
import Derived.Test.YtffmpomidfickaaTrCtr
namespace Go.Proofs.Ytffmpomidfickaa.Fns
open Go Go.RowKit Am Tr
set_option maxRecDepth 100000
theorem ins_ok : FnOk Try.prog 31 (insF 54 7 56 [.int .i64 0, .int .i64 0, .int .i64 0, .int .i64 0, .int .i64 0, .int .i64 0, .int .i64 0] #[58, 58] #[4] 49) := ok31
theorem del_ok : FnOk Try.prog 33 (delF 54 7 56 [.int .i64 0, .int .i64 0, .int .i64 0, .int .i64 0, .int .i64 0, .int .i64 0, .int .i64 0]) := ok33
noncomputable section
def ctrNext : Ctr := fun _ args h n k => match args with
  | [.ptr (.mu t) 0, .agg [.int .i64 a, .int .i64 b, .int .i64 c], .int .i64 d] => treK h t fun N => chk (Nat.ble 1 (lv N).length) (fAV (nextV ⟨a, b, c⟩ d (lv N)) fun v => k v h n)
  | _ => false
theorem ctrNext_ok {R : Ro} : CtrOk Try.prog R 22 ctrNext := by
  intro m _ _ args h n k H s hk
  unfold ctrNext at hk
  split at hk
  · rename_i t a b c d
    obtain ⟨j, l, cp, N, ht, hq⟩ := treK_ok s hk
    obtain ⟨h1, hq1⟩ := chk_ok hq
    rw [fAV_eq] at hq1
    exact CtrOk.done s hq1 ((next_ok ht (Nat.le_of_ble_eq_true h1) ⟨a, b, c⟩ d).mono fun v G h => ⟨h.2, h.1⟩)
  · cases hk
def ctrPanes : Ctr := fun _ args h n k => match args with
  | [.ptr (.mu t) 0] => treK h t fun N => chk (Nat.ble 1 (lv N).length) (chk (Nat.ble (lv N).length 100) (fN (lv N).length fun l => fAVL (paV (lv N)) fun D => pushF h n (.row D 25 3) fun h' n' => k (.slice (.mu n) 0 l (.opn 0)) h' n'))
  | _ => false
theorem ctrPanes_ok {R : Ro} : CtrOk Try.prog R 28 ctrPanes := by
  intro m _ _ args h n k H s hk
  unfold ctrPanes at hk
  split at hk
  · rename_i t
    obtain ⟨j, l, cp, N, ht, hq⟩ := treK_ok s hk
    obtain ⟨h1, hq1⟩ := chk_ok hq
    obtain ⟨h2, hq2⟩ := chk_ok hq1
    rw [fN_eq, fAVL_eq, pushF_eq] at hq2
    refine (lpanes_ok ht (Nat.le_of_ble_eq_true h1) (Nat.le_of_ble_eq_true h2)).mono ?_
    rintro v G ⟨rfl, rfl⟩
    exact ⟨_, _, s.push _, by rw [s.len]; exact hq2⟩
  · cases hk
def ctr : FuncId → Option Ctr
  | 15 => some Tr.ctrLen
  | 22 => some ctrNext
  | 28 => some ctrPanes
  | 31 => some (ctrIns 54 7 56)
  | 33 => some (ctrDel 54 7 56)
  | _ => none
theorem ctr_ok : ∀ f g, ctr f = some g → CtrOk Try.prog noRo f g := by
  intro f g h
  unfold ctr at h
  split at h
  · cases h; exact Tr.ctrLen_ok
  · cases h; exact ctrNext_ok
  · cases h; exact ctrPanes_ok
  · cases h; exact ctrIns_ok mixed ins_ok rfl (by decide) (by decide) rfl
  · cases h; exact ctrDel_ok mixed del_ok rfl (by decide) (by decide) rfl
  · cases h
end
theorem awake_ev : evGo Try.prog noRo tab ctr 20000 14 = true := by kernel_rfl
theorem awake (H : AH) : ACalls Try.prog noRo 14 [] H fun v H' => H' = H ∧ v = .bool true := ACalls.go mixed tab_ok ctr_ok awake_ev H
theorem known_ev : evGo Try.prog noRo tab ctr 60000 3 = true := by kernel_rfl
theorem known : ACalls Try.prog noRo 3 [] [] fun v _ => v = .bool true := evGo_ok mixed tab_ok ctr_ok known_ev
end Go.Proofs.Ytffmpomidfickaa.Fns
