/- slices.Insert, slices.Delete, in the evaluator's words. -/
import Derived.Test.YtbcfhiohdamcjaaAmCtr
import Derived.Test.YtbcfhiohdamcjaaAmSlices
set_option linter.unusedSimpArgs false
set_option linter.unusedVariables false
set_option linter.unusedSectionVars false
set_option linter.unnecessarySimpa false
namespace Am
open Go Go.RowKit
theorem ones_ok {c : List AV} (h : ones c = true) : c.all AV.oneCell = true := by rw [← ones_eq]; exact h
set_option linter.unusedSimpArgs false
set_option linter.unusedVariables false
section
variable {P : Program} {R : Ro}
attribute [-simp] Am.binEv Am.intBin Am.read1
attribute [local simp] binEv_lss binEv_leq binEv_gtr binEv_geq binEv_eql binEv_neq binEv_add binEv_sub binEv_mul read1_ro read1_mu
/-- What a slice without a room's number has become, one put behind. -/
theorem append_nil {H : AH} {jv m sz by' : Nat} {V : List AV} {tE tV : TypeId} {cv : Cap} (hV : H[jv]? = some (.cells V tV)) (hVl : V.length = m * sz) (hm0 : 0 < m) (hsz : sz ≠ 0) (hby : by' ≠ 0) (hfit : m * by' ≤ 140737488355328) (hVo : V.all AV.oneCell = true) :
    appendEv R H tE sz by' .nilslice (.slice (.mu jv) 0 m cv) = some (.slice (.mu H.length) 0 m (.opn 0), H ++ [.row V tE sz]) := by
  unfold appendEv
  rw [src_cells hV hVl]
  dsimp only
  rw [if_neg (by omega), if_pos ⟨hfit, hsz, hby, hVo⟩]
theorem append_opn {H : AH} {j jv n m sz by' : Nat} {c V : List AV} {tE tV : TypeId} {cv : Cap} (hj : H[j]? = some (.row c tE sz)) (hc : c.length = n * sz) (hV : H[jv]? = some (.cells V tV)) (hVl : V.length = m * sz) (hm0 : 0 < m) (hsz : sz ≠ 0) (hby : by' ≠ 0) (hfit : (n + m) * by' ≤ 140737488355328) (hVo : V.all AV.oneCell = true) :
    appendEv R H tE sz by' (.slice (.mu j) 0 n (.opn 0)) (.slice (.mu jv) 0 m cv) = some (.slice (.mu H.length) 0 (n + m) (.opn 0), H.set j .dead ++ [.row (c ++ V) tE sz]) := by
  unfold appendEv
  rw [src_cells hV hVl]
  dsimp only
  rw [if_pos ⟨hfit, hsz, hby, hVo⟩, hj]
  dsimp only
  rw [if_pos ⟨rfl, rfl, by omega, by omega⟩, if_neg (by
    have : 0 < m * sz := Nat.mul_pos hm0 (Nat.pos_of_ne_zero hsz)
    rw [Nat.add_mul]; omega)]
  rw [List.drop_zero, List.take_of_length_le (by omega)]
theorem ins_nilE {f : FuncId} {tE sz by' rot : Nat} {z : List AV} {ov or_ : Array TypeId} (hf : FnOk P f (insF tE sz by' z ov or_ rot)) {H : AH} {jv m : Nat} {V : List AV} {tV : TypeId} {cv : Cap}
    (hV : H[jv]? = some (.cells V tV)) (hVl : V.length = m * sz) (hm0 : 0 < m) (hsz : sz ≠ 0) (hby : by' ≠ 0) (hfit : m * by' ≤ 140737488355328) (hVo : V.all AV.oneCell = true) :
    ACalls P R f [.nilslice, .int .i64 0, .slice (.mu jv) 0 m cv] H fun v G => v = .slice (.mu H.length) 0 m (.opn 0) ∧ G = H ++ [.row V tE sz] := by
  have hmn2 : ¬ m = 0 := by omega
  refine ACalls.of_wpE hf (by simp [insF]) ?_
  simp [insF, sliceEv, boundEv, hmn2, append_nil (R := R) (tE := tE) (cv := cv) hV hVl hm0 hsz hby hfit hVo]
theorem ins_lastE {f : FuncId} {tE sz by' rot : Nat} {z : List AV} {ov or_ : Array TypeId} (hf : FnOk P f (insF tE sz by' z ov or_ rot)) {H : AH} {j jv n m : Nat} {c V : List AV} {tV : TypeId} {cv : Cap}
    (hj : H[j]? = some (.row c tE sz)) (hc : c.length = n * sz) (hn : 0 < n) (hV : H[jv]? = some (.cells V tV)) (hVl : V.length = m * sz) (hm0 : 0 < m) (hsz : sz ≠ 0) (hby : by' ≠ 0) (hfit : (n + m) * by' ≤ 140737488355328) (hVo : V.all AV.oneCell = true) :
    ACalls P R f [.slice (.mu j) 0 n (.opn 0), .int .i64 n, .slice (.mu jv) 0 m cv] H fun v G => v = .slice (.mu (H.length + 1)) 0 (n + m) (.opn 0) ∧ G = (H ++ [AO.dead]).set j .dead ++ [.row (c ++ V) tE sz] := by
  have hmn2 : ¬ m = 0 := by omega
  have hjl := (List.getElem?_eq_some_iff.1 hj).1
  have hvl := (List.getElem?_eq_some_iff.1 hV).1
  have hn0 : ¬ n = 0 := by omega
  have h3 : (n * sz) / sz = n := Nat.mul_div_cancel _ (Nat.pos_of_ne_zero hsz)
  have hs : sliceEv H sz (.slice (.mu j) 0 n (.opn 0)) (some (.int .i64 (n : Int))) none none = some (.slice (.mu H.length) 0 0 (.opn 0), H ++ [.dead]) := by
    simp [sliceEv, boundEv, hj, hc, hsz, h3, hn0]
  have ha := append_opn (R := R) (H := H ++ [.dead]) (by' := by') (cv := cv) (by rw [List.getElem?_append_left hjl]; exact hj) hc (by rw [List.getElem?_append_left hvl]; exact hV) hVl hm0 hsz hby hfit hVo
  simp only [List.length_append, List.length_cons, List.length_nil] at ha
  refine ACalls.of_wpE hf (by simp [insF]) ?_
  simp [insF, hs, hmn2, ha]
theorem ins_zeroE {f : FuncId} {tE sz by' rot : Nat} {z : List AV} {ov or_ : Array TypeId} (hf : FnOk P f (insF tE sz by' z ov or_ rot)) {H : AH} {j jv m : Nat} {V : List AV} {tV : TypeId} {cv : Cap}
    (hj : H[j]? = some (.row [] tE sz)) (hV : H[jv]? = some (.cells V tV)) (hVl : V.length = m * sz) (hm0 : 0 < m) (hsz : sz ≠ 0) (hby : by' ≠ 0) (hfit : m * by' ≤ 140737488355328) (hVo : V.all AV.oneCell = true) :
    ACalls P R f [.slice (.mu j) 0 0 (.opn 0), .int .i64 0, .slice (.mu jv) 0 m cv] H fun v G => v = .slice (.mu H.length) 0 m (.opn 0) ∧ G = H.set j .dead ++ [.row V tE sz] := by
  have hmn2 : ¬ m = 0 := by omega
  have h0 : (0 : Nat) / sz = 0 := Nat.zero_div _
  have hs : sliceEv H sz (.slice (.mu j) 0 0 (.opn 0)) (some (.int .i64 0)) none none = some (.slice (.mu j) 0 0 (.opn 0), H) := by
    simp [sliceEv, boundEv, hj, hsz, h0]
  have ha := append_opn (R := R) (H := H) (by' := by') (n := 0) (cv := cv) hj (by simp) hV hVl hm0 hsz hby (by simpa using hfit) hVo
  rw [Nat.zero_add, List.nil_append] at ha
  refine ACalls.of_wpE hf (by simp [insF]) ?_
  simp [insF, hs, hmn2, ha]
theorem ins_knE {f : FuncId} {tE sz by' rot : Nat} {z : List AV} {ov or_ : Array TypeId} (hf : FnOk P f (insF tE sz by' z ov or_ rot)) {H : AH} {j jv n m : Nat} {c V : List AV} {tC tV : TypeId} {cv : Cap}
    (hj : H[j]? = some (.cells c tC)) (hc : c.length = n * sz) (hn : 0 < n) (hV : H[jv]? = some (.cells V tV)) (hVl : V.length = m * sz) (hm0 : 0 < m) (hsz : sz ≠ 0) (hby : by' ≠ 0) (hfit : (n + m) * by' ≤ 140737488355328) (hVo : V.all AV.oneCell = true) :
    ACalls P R f [.slice (.mu j) 0 n (.known n), .int .i64 n, .slice (.mu jv) 0 m cv] H fun v G => v = .slice (.mu H.length) 0 (n + m) (.opn 0) ∧ G = H ++ [.row (c ++ V) tE sz] := by
  have hmn2 : ¬ m = 0 := by omega
  have hs : sliceEv H sz (.slice (.mu j) 0 n (.known n)) (some (.int .i64 (n : Int))) none none = some (.slice (.mu j) 0 0 (.known 0), H) := by
    simp [sliceEv, boundEv]
  have ha : appendEv R H tE sz by' (.slice (.mu j) 0 n (.known n)) (.slice (.mu jv) 0 m cv) = some (.slice (.mu H.length) 0 (n + m) (.opn 0), H ++ [.row (c ++ V) tE sz]) := by
    unfold appendEv
    rw [src_cells hV hVl]
    dsimp only
    rw [if_pos ⟨hfit, hsz, hby, hVo⟩, if_neg (by omega)]
    simp only [readN, hj, Option.bind_some, AO.content, Nat.zero_add, List.drop_zero]
    rw [if_pos (by omega), List.take_of_length_le (by omega)]
  refine ACalls.of_wpE hf (by simp [insF]) ?_
  simp [insF, hs, hmn2, ha]
end
noncomputable section
section
variable {P : Program} {R : Ro}
def ckV (sz : Nat) (V : List AV) (m : Nat) : Bool := chk (Nat.beq (lenK V) (Nat.mul m sz)) (chk (Nat.ble 1 m) (ones V))
/-- slices.Insert. -/
def ctrIns (tE sz by' : Nat) : Ctr := fun _ args h n k => match args with
  | [s, .int .i64 zi, .slice (.mu jv) 0 m _] => natOf zi fun i => match gH h jv with
    | .cells V _ => chk (ckV sz V m) (match s with
      | .nilslice => chk (Nat.beq i 0) (chk (Nat.ble (Nat.mul m by') 140737488355328) (fAVL V fun V => pushF h n (.row V tE sz) fun h' n' => k (.slice (.mu n) 0 m (.opn 0)) h' n'))
      | .slice (.mu j) 0 l (.opn 0) => match gH h j with
        | .row c t' sz' => chk (Nat.beq t' tE) (chk (Nat.beq sz' sz) (chk (Nat.beq (lenK c) (Nat.mul l sz)) (chk (ones c) (chk (Nat.ble (Nat.mul (Nat.add l m) by') 140737488355328)
          (match Nat.ble (Nat.succ i) l with
            | true => fAVL (c.take (i * sz) ++ V ++ c.drop (i * sz)) fun c' => putF h j .dead fun h => pushF h n (.row c' tE sz) fun h' n' => k (.slice (.mu n) 0 (l + m) (.opn 0)) h' n'
            | false => chk (Nat.beq i l) (match l with
              | 0 => fAVL V fun V => putF h j .dead fun h => pushF h n (.row V tE sz) fun h' n' => k (.slice (.mu n) 0 m (.opn 0)) h' n'
              | l + 1 => fAVL (c ++ V) fun c' => pushF h n .dead fun h1 n1 => putF h1 j .dead fun h => pushF h n1 (.row c' tE sz) fun h' n' => k (.slice (.mu n1) 0 (l + 1 + m) (.opn 0)) h' n'))))))
        | _ => false
      | .slice (.mu j) 0 l (.known kc) => match gH h j with
        | .cells c _ => chk (Nat.beq kc l) (chk (Nat.beq i l) (chk (Nat.ble 1 l) (chk (Nat.beq (lenK c) (Nat.mul l sz)) (chk (Nat.ble (Nat.mul (Nat.add l m) by') 140737488355328)
          (fAVL (c ++ V) fun c' => pushF h n (.row c' tE sz) fun h' n' => k (.slice (.mu n) 0 (l + m) (.opn 0)) h' n')))))
        | _ => false
      | _ => false)
    | _ => false
  | _ => false
/-- slices.Delete of one element. -/
def ctrDel (tE sz by' : Nat) : Ctr := fun _ args h n k => match args with
  | [.slice (.mu j) 0 l (.opn 0), .int .i64 zi, .int .i64 zj] => natOf zi fun i => natOf zj fun i1 => match gH h j with
    | .row c t' sz' => chk (Nat.beq i1 (Nat.succ i)) (chk (Nat.ble (Nat.succ i) l) (chk (Nat.beq t' tE) (chk (Nat.beq sz' sz) (chk (Nat.beq (lenK c) (Nat.mul l sz)) (chk (ones c) (chk (Nat.ble (Nat.mul l by') 140737488355328)
        (fAVL (c.take (i * sz) ++ c.drop ((i + 1) * sz)) fun c' => putF h j .dead fun h => pushF h n (.row c' tE sz) fun h' n' => k (.slice (.mu n) 0 (l - 1) (.opn 0)) h' n')))))))
    | _ => false
  | _ => false
theorem beq_ok {a b : Nat} (h : Nat.beq a b = true) : a = b := Nat.eq_of_beq_eq_true h
theorem ckV_ok {sz m : Nat} {V : List AV} (h : ckV sz V m = true) : V.length = m * sz ∧ 0 < m ∧ V.all AV.oneCell = true := by
  unfold ckV at h
  obtain ⟨h1, h⟩ := chk_ok h
  obtain ⟨h2, h3⟩ := chk_ok h
  have := beq_ok h1
  rw [lenK_eq] at this
  exact ⟨this, Nat.le_of_ble_eq_true h2, ones_ok h3⟩
theorem at_cells {h : HT} {n : Nat} {H : AH} (s : Sim h n H) {j : Nat} {o : AO} (he : gH h j = o) (hl : o.live = true) : j < n ∧ H[j]? = some o := s.at he hl
theorem ctrIns_ok {f : FuncId} {tE sz by' rot : Nat} {z : List AV} {ov or_ : Array TypeId} (hm : P.follows .mixedOrders = true) (hf : FnOk P f (insF tE sz by' z ov or_ rot)) (hz : z.length = sz) (hsz : sz ≠ 0) (hby : by' ≠ 0) (hzo : z.all AV.oneCell = true) : CtrOk P R f (ctrIns tE sz by') := by
  intro m _ _ args h n k H s hk
  unfold ctrIns at hk
  split at hk
  · rename_i sv zi jv mm cv
    obtain ⟨i, rfl, hk1⟩ := natOf_ok hk
    split at hk1
    · rename_i V tV hV
      obtain ⟨hv, hk2⟩ := chk_ok hk1
      obtain ⟨v1, v2, v3⟩ := ckV_ok hv
      obtain ⟨_, hV'⟩ := s.at hV rfl
      split at hk2
      · obtain ⟨h1, hk3⟩ := chk_ok hk2
        obtain ⟨h2, hk4⟩ := chk_ok hk3
        obtain rfl := beq_ok h1
        rw [fAVL_eq, pushF_eq] at hk4
        refine (ins_nilE hf hV' v1 v2 hsz hby (Nat.le_of_ble_eq_true h2) v3).mono ?_
        rintro v G ⟨rfl, rfl⟩
        exact ⟨_, _, s.push _, by rw [s.len]; exact hk4⟩
      · rename_i j l
        split at hk2
        · rename_i c t' sz' hj
          obtain ⟨h1, hk5⟩ := chk_ok hk2
          obtain ⟨h2, hk6⟩ := chk_ok hk5
          obtain ⟨h3, hk7⟩ := chk_ok hk6
          obtain ⟨h4, hk8⟩ := chk_ok hk7
          obtain ⟨h5, hk9⟩ := chk_ok hk8
          obtain rfl := beq_ok h1
          obtain rfl := beq_ok h2
          have h3 := beq_ok h3
          rw [lenK_eq] at h3
          have h4 := ones_ok h4
          have h5 : (l + mm) * by' ≤ 140737488355328 := Nat.le_of_ble_eq_true h5
          obtain ⟨hjn, hj'⟩ := s.at hj rfl
          split at hk9
          · rename_i hil
            rw [fAVL_eq, putF_eq, pushF_eq] at hk9
            refine (ins_row hm hf hz hj' hV' h3 v1 (Nat.le_of_ble_eq_true hil) v2 hsz hby h5 hzo h4 v3).mono ?_
            rintro v G ⟨rfl, rfl⟩
            exact ⟨_, _, (s.put hjn .dead).push _, by rw [s.len]; exact hk9⟩
          · obtain ⟨h6, hk10⟩ := chk_ok hk9
            obtain rfl := beq_ok h6
            split at hk10
            · rw [fAVL_eq, putF_eq, pushF_eq] at hk10
              have hc0 : c = [] := List.eq_nil_of_length_eq_zero (by rw [h3]; simp)
              subst hc0
              refine (ins_zeroE hf hj' hV' v1 v2 hsz hby (by simpa using h5) v3).mono ?_
              rintro v G ⟨rfl, rfl⟩
              exact ⟨_, _, (s.put hjn .dead).push _, by rw [s.len]; exact hk10⟩
            · rename_i l
              rw [fAVL_eq, pushF_eq, putF_eq, pushF_eq] at hk10
              refine (ins_lastE hf hj' h3 (Nat.succ_pos _) hV' v1 v2 hsz hby h5 v3).mono ?_
              rintro v G ⟨rfl, rfl⟩
              exact ⟨_, _, ((s.push .dead).put (by omega) .dead).push _, by rw [s.len]; exact hk10⟩
        · cases hk2
      · rename_i j l kc
        split at hk2
        · rename_i c tC hj
          obtain ⟨h1, hk11⟩ := chk_ok hk2
          obtain ⟨h2, hk12⟩ := chk_ok hk11
          obtain ⟨h3, hk13⟩ := chk_ok hk12
          obtain ⟨h4, hk14⟩ := chk_ok hk13
          obtain ⟨h5, hk15⟩ := chk_ok hk14
          obtain rfl := beq_ok h1
          obtain rfl := beq_ok h2
          have h4 := beq_ok h4
          rw [lenK_eq] at h4
          obtain ⟨hjn, hj'⟩ := s.at hj rfl
          rw [fAVL_eq, pushF_eq] at hk15
          refine (ins_knE hf hj' h4 (Nat.le_of_ble_eq_true h3) hV' v1 v2 hsz hby (Nat.le_of_ble_eq_true h5) v3).mono ?_
          rintro v G ⟨rfl, rfl⟩
          exact ⟨_, _, s.push _, by rw [s.len]; exact hk15⟩
        · cases hk2
      · cases hk2
    · cases hk1
  · cases hk
theorem ctrDel_ok {f : FuncId} {tE sz by' : Nat} {z : List AV} (hm : P.follows .mixedOrders = true) (hf : FnOk P f (delF tE sz by' z)) (hz : z.length = sz) (hsz : sz ≠ 0) (hby : by' ≠ 0) (hzo : z.all AV.oneCell = true) : CtrOk P R f (ctrDel tE sz by') := by
  intro m _ _ args h n k H s hk
  unfold ctrDel at hk
  split at hk
  · rename_i j l zi zj
    obtain ⟨i, rfl, hk1⟩ := natOf_ok hk
    obtain ⟨i1, rfl, hk2⟩ := natOf_ok hk1
    split at hk2
    · rename_i c t' sz' hj
      obtain ⟨h0, hk3⟩ := chk_ok hk2
      obtain ⟨hi, hk4⟩ := chk_ok hk3
      obtain ⟨h1, hk5⟩ := chk_ok hk4
      obtain ⟨h2, hk6⟩ := chk_ok hk5
      obtain ⟨h3, hk7⟩ := chk_ok hk6
      obtain ⟨h4, hk8⟩ := chk_ok hk7
      obtain ⟨h5, hk9⟩ := chk_ok hk8
      obtain rfl := beq_ok h0
      obtain rfl := beq_ok h1
      obtain rfl := beq_ok h2
      have h3 := beq_ok h3
      rw [lenK_eq] at h3
      have h4 := ones_ok h4
      obtain ⟨hjn, hj'⟩ := s.at hj rfl
      rw [fAVL_eq, putF_eq, pushF_eq] at hk9
      refine (del_row hm hf hz hj' h3 (Nat.le_of_ble_eq_true hi) hsz hby (Nat.le_of_ble_eq_true h5) hzo h4).mono ?_
      rintro v G ⟨rfl, rfl⟩
      exact ⟨_, _, (s.put hjn .dead).push _, by rw [s.len]; exact hk9⟩
    · cases hk2
  · cases hk
end
end
end Am
