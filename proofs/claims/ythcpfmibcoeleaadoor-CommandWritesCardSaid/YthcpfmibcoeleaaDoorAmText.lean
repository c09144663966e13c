/- The library's contracts of texts, for a text that is not known. -/
import Derived.Test.YthcpfmibcoeleaaDoorAmLib
import Derived.Lib.ItoaMem
import Derived.Lib.AppendIntMem
set_option linter.unusedSimpArgs false
set_option linter.unusedVariables false
set_option linter.unusedSectionVars false
set_option linter.unnecessarySimpa false
namespace Am
open Go Go.RowKit
noncomputable section
section
variable {P : Program} {R : Ro}
theorem sim_exists : ∀ (n : Nat) (H : AH), H.length = n → ∃ h, Sim h n H
  | 0, H, hl => by
    obtain rfl := List.length_eq_zero_iff.1 hl
    exact ⟨_, sim_nil⟩
  | n + 1, H, hl => by
    have hne : H ≠ [] := fun e => by rw [e] at hl; cases hl
    obtain ⟨h, s⟩ := sim_exists n H.dropLast (by simp [hl])
    have := s.push (H.getLast hne)
    rw [List.dropLast_concat_getLast hne] at this
    exact ⟨_, this⟩
theorem CtrOk.use {f : FuncId} {g : Ctr} (hc : CtrOk P R f g) {args : List AV} {H : AH} {K : AV → AH → Prop}
    (hk : ∀ h, Sim h H.length H → ∀ k : AV → HT → Nat → Bool, (∀ v h' n' H', Sim h' n' H' → K v H' → k v h' n' = true) → g M.bad args h H.length k = true) : ACalls P R f args H K := by
  classical
  obtain ⟨h, s⟩ := sim_exists _ H rfl
  have h1 := hc M.bad (fun f args h n k H _ hb => by cases hb) (fun ac nt e h n k H _ hb => by cases hb) args h H.length (fun v h' n' => decide (∃ H', Sim h' n' H' ∧ K v H')) H s
    (hk h s _ fun v h' n' H' hs hK => decide_eq_true ⟨H', hs, hK⟩)
  refine h1.mono ?_
  rintro v H' ⟨h', n', s', hd⟩
  obtain ⟨H2, s2, hK⟩ := of_decide_eq_true hd
  rw [← s'.list, s2.list]
  exact hK
theorem chk_mk {b : Bool} {x : Bool} (hb : b = true) (hx : x = true) : chk b x = true := by rw [hb, hx]; rfl
theorem atoi_use {f : FuncId} {te : TypeId} (hc : CtrOk P R f (ctrAtoi te)) (s : List UInt8) (hs : s.length ≤ 10000) (H : AH) :
    ACalls P R f [.str s] H fun v H' => match Lib.atoiAll s with | .ok z => v = .tuple [.int .i64 z, .niface] ∧ H' = H | _ => ∃ z, v = .tuple [.int .i64 z, .iface te (.ptr (.mu H.length) 0)] ∧ H' = H ++ [.dead] := by
  refine hc.use fun h sm k hk => ?_
  unfold ctrAtoi
  dsimp only
  refine chk_mk (Nat.ble_eq_true_of_le hs) ?_
  cases hq : Lib.atoiAll s with
  | ok z => 
    dsimp only
    rw [fI_eq]
    exact hk _ _ _ H sm (by rw [hq]; exact ⟨rfl, rfl⟩)
  | range =>
    dsimp only
    rw [fI_eq, pushF_eq]
    exact hk _ _ _ _ (sm.push _) (by rw [hq]; exact ⟨_, rfl, rfl⟩)
  | _ =>
    dsimp only
    rw [pushF_eq]
    exact hk _ _ _ _ (sm.push _) (by rw [hq]; exact ⟨_, rfl, rfl⟩)
theorem split_use {f : FuncId} {t9 : TypeId} (hc : CtrOk P R f (ctrSplit t9)) (s sep : List UInt8) (hs : s.length ≤ 10000) (h1 : 1 ≤ sep.length) (H : AH) :
    ACalls P R f [.str s, .str sep] H fun v H' => v = .slice (.mu H.length) 0 (Lib.count s sep + 1) (.known (Lib.count s sep + 1)) ∧ H' = H ++ [.cells ((Lib.splitK sep 0 (Lib.count s sep) s).map AV.str) t9] := by
  refine hc.use fun h sm k hk => ?_
  unfold ctrSplit
  dsimp only
  refine chk_mk (Nat.ble_eq_true_of_le hs) (chk_mk (Nat.ble_eq_true_of_le h1) ?_)
  rw [fN_eq, fAVL_eq, pushF_eq]
  exact hk _ _ _ _ (sm.push _) ⟨rfl, rfl⟩
theorem dropK_zero (c : List AV) (k : List AV → Bool) : dropK c 0 k = k c := by cases c <;> rfl
theorem takeK_all : ∀ (c : List AV) (k : List AV → Bool), takeK c c.length k = k c
  | [], k => rfl
  | x :: xs, k => by
    show takeK xs xs.length (fun l => k (x :: l)) = _
    exact takeK_all xs _
theorem strsK_all : ∀ (ss : List (List UInt8)) (q : List (List UInt8) → Bool), strsK (ss.map AV.str) q = q ss
  | [], q => rfl
  | s :: ss, q => by
    show strsK (ss.map AV.str) (fun r => q (s :: r)) = _
    exact strsK_all ss _
theorem join_use {f : FuncId} (hc : CtrOk P R f ctrJoin) {H : AH} {i : Nat} {ss : List (List UInt8)} {t : TypeId} (hi : H[i]? = some (.row (ss.map AV.str) t 1)) (sep : List UInt8) (hl : ss.length ≤ 100000) (hj : (Lib.join ss sep).length ≤ 100000) :
    ACalls P R f [.slice (.mu i) 0 ss.length (.opn 0), .str sep] H fun v H' => v = .str (Lib.join ss sep) ∧ H' = H := by
  refine hc.use fun h sm k hk => ?_
  have hg : gH h i = .row (ss.map AV.str) t 1 := by
    have := sm.obj i (List.getElem?_eq_some_iff.1 hi).1
    rw [hi] at this
    exact (Option.some.inj this).symm
  unfold ctrJoin
  dsimp only
  rw [hg]
  dsimp only
  refine chk_mk rfl (chk_mk rfl ?_)
  rw [dropK_zero]
  have e : ss.length = (ss.map AV.str).length := by simp
  conv => lhs; rw [e]
  rw [takeK_all, strsK_all]
  refine chk_mk (Nat.ble_eq_true_of_le hj) (chk_mk (Nat.ble_eq_true_of_le (by simpa using hl)) ?_)
  rw [fStr_eq]
  exact hk _ _ _ _ sm ⟨rfl, rfl⟩
theorem itoa_use {f : FuncId} {n : Int} (h0 : -9223372036854775808 ≤ n) (h1 : n ≤ 9223372036854775807)
    (hT : ∀ base, ROk R base → Lib.TabIs P base "internal/strconv.uint64pow10" .u64 Lib.pow10Tab)
    (hI : ∀ w, Lib.TabIs P w "internal/strconv.uint64pow10" .u64 Lib.pow10Tab → Calls P f #[.int .i64 n] w fun e w' => e = .returned (.string ⟨(Lib.itoa n).toArray⟩) ∧ Below w.heap.size w w') (H : AH) :
    ACalls P R f [.int .i64 n] H fun v H' => v = .str (Lib.itoa n) ∧ H' = H := by
  intro base hR ρ w Vs hrel hV
  simp [renL, ren] at hV
  subst hV
  refine (hI w (Lib.tabBelow_of_tabIs (hT base hR) w hrel.below)).mono ?_
  rintro e w' ⟨rfl, hb⟩
  exact ⟨.str (Lib.itoa n), _, ρ, H, rfl, Ext.refl _, hrel.later hb, by simp [ren], rfl, rfl⟩
theorem writeN_cell {H : AH} {p : Nat} {c : List AV} {t : TypeId} (h : H[p]? = some (.cells c t)) {i : Nat} (hi : i < c.length) (v : AV) (hv : v.oneCell = true) : writeN H p i [v] = some (H.set p (.cells (c.set i v) t)) := by
  unfold writeN
  rw [h]
  simp only [AO.content, AO.withContent]
  have hi' : i + 1 ≤ c.length := hi
  have hsp : splice c i [v] = c.set i v := by
    apply List.ext_getElem?
    intro j
    unfold splice
    rw [List.getElem?_set]
    by_cases h1 : j < i
    · rw [List.append_assoc, List.getElem?_append_left (by rw [List.length_take]; omega), List.getElem?_take_of_lt h1, if_neg (by omega)]
    · by_cases h2 : j = i
      · subst h2
        rw [if_pos rfl, if_pos hi, List.append_assoc, List.getElem?_append_right (by rw [List.length_take]; omega), List.length_take, Nat.min_eq_left (by omega)]
        simp
      · rw [if_neg (by omega), List.append_assoc, List.getElem?_append_right (by rw [List.length_take]; omega), List.length_take, Nat.min_eq_left (by omega), List.getElem?_append_right (by simp; omega), List.getElem?_drop]
        simp only [List.length_singleton]
        congr 1
        omega
  rw [hsp, if_pos ⟨hi', by simpa using hv⟩]
theorem writeN_whole {H : AH} {p : Nat} {old new : List AV} {t : TypeId} (h : H[p]? = some (.cells old t)) (hl : new.length = old.length) (h1 : new.all AV.oneCell = true) : writeN H p 0 new = some (H.set p (.cells new t)) := by
  unfold writeN
  rw [h]
  simp only [AO.content, AO.withContent]
  rw [if_pos ⟨by omega, h1⟩]
  have : splice old 0 new = new := by simp [splice, hl]
  rw [this]
theorem writeN_last0 (H : AH) {old new : List AV} (t : TypeId) (hl : new.length = old.length) (h1 : new.all AV.oneCell = true) : writeN (H ++ [.cells old t]) H.length 0 new = some (H ++ [.cells new t]) := by
  rw [writeN_whole (p := H.length) (old := old) (t := t) (by simp) hl h1]
  congr 1
  apply List.ext_getElem?
  intro i
  rw [List.getElem?_set]
  by_cases h2 : H.length = i
  · subst h2; simp
  · rw [if_neg h2]
    by_cases h3 : i < H.length
    · rw [List.getElem?_append_left h3, List.getElem?_append_left h3]
    · rw [List.getElem?_eq_none (by simp; omega), List.getElem?_eq_none (by simp; omega)]
end
end
end Am
