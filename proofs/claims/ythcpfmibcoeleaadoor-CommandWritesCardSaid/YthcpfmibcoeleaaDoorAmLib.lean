/- Contracts of strings and strconv, in the evaluator's words. -/
import Derived.Test.YthcpfmibcoeleaaDoorAmCtr
import Derived.Lib.Join
import Derived.Lib.Split
import Derived.Lib.AtoiAll
import Derived.Lib.SplitLaws
set_option linter.unusedSimpArgs false
set_option linter.unusedVariables false
set_option linter.unusedSectionVars false
set_option linter.unnecessarySimpa false
namespace Am
open Go Go.RowKit
noncomputable section
section
variable {P : Program} {R : Ro}
theorem ro_cell {base : World} (hR : ROk R base) {ρ : Ren} {H : AH} {w : World} (h : Rel base ρ H w) {g : Nat} {a : AV} (hg : R g 0 = some a) : ∃ x, ren [] a = some x ∧ w.cell? ⟨g, 0, none⟩ = some x := by
  obtain ⟨h1, x, h2, h3⟩ := hR g 0 a hg
  exact ⟨x, h2, by rw [h.below.cell (p := ⟨g, 0, none⟩) h1]; exact h3⟩
/-! ### strconv.Atoi -/
def ctrAtoi (te : TypeId) : Ctr := fun _ args h n k => match args with
  | [.str s] => chk (Nat.ble s.length 10000) (match Lib.atoiAll s with
    | .ok v => fI v fun v => k (.tuple [.int .i64 v, .niface]) h n
    | .range => fI (Lib.atoiSat s) fun v => pushF h n .dead fun h' n' => k (.tuple [.int .i64 v, .iface te (.ptr (.mu n) 0)]) h' n'
    | _ => pushF h n .dead fun h' n' => k (.tuple [.int .i64 0, .iface te (.ptr (.mu n) 0)]) h' n')
  | _ => false
theorem ctrAtoi_ok {f gS gR : Nat} {te : TypeId} (hS : ∃ t l o, R gS 0 = some (.iface t (.ptr (.ro l) o))) (hRg : ∃ t l o, R gR 0 = some (.iface t (.ptr (.ro l) o)))
    (h1 : ∀ (s : ByteArray) v w, s.size ≤ 10000 → Lib.atoiAll s.data.toList = .ok v → Calls P f #[.string s] w fun e w' => e = .returned (.tuple #[.int .i64 v, .nilIface]) ∧ Below w.heap.size w w')
    (h2 : ∀ (s : ByteArray) w ev, s.size ≤ 10000 → (∀ v, Lib.atoiAll s.data.toList ≠ .ok v) → Lib.atoiAll s.data.toList ≠ .range → w.cell? ⟨gS, 0, none⟩ = some ev → (ev = .nilIface ∨ ∃ te pe, ev = .iface te pe) → Calls P f #[.string s] w fun e w' => ∃ N, e = .returned (.tuple #[.int .i64 0, .iface te (.pointer (some ⟨N, 0, none⟩))]) ∧ Below w.heap.size w w')
    (h3 : ∀ (s : ByteArray) w ev, s.size ≤ 10000 → Lib.atoiAll s.data.toList = .range → w.cell? ⟨gR, 0, none⟩ = some ev → (ev = .nilIface ∨ ∃ te pe, ev = .iface te pe) → Calls P f #[.string s] w fun e w' => ∃ N, e = .returned (.tuple #[.int .i64 (Lib.atoiSat s.data.toList), .iface te (.pointer (some ⟨N, 0, none⟩))]) ∧ Below w.heap.size w w') :
    CtrOk P R f (ctrAtoi te) := by
  intro m _ _ args h n k H s hk
  unfold ctrAtoi at hk
  split at hk
  · rename_i t
    obtain ⟨hl, hk⟩ := chk_ok hk
    have hl := Nat.le_of_ble_eq_true hl
    split at hk
    · rename_i v hv
      rw [fI_eq] at hk
      exact CtrOk.done s hk (ACalls.pure (Vs := [.string ⟨⟨t⟩⟩]) (V := .tuple #[.int .i64 v, .nilIface]) (by simp [ren, renL]) (by simp [ren, renL]) (fun w => h1 ⟨⟨t⟩⟩ v w hl hv) H)
    · rename_i hv
      rw [fI_eq, pushF_eq] at hk
      intro base hR ρ w Vs hrel hV
      simp [renL, ren] at hV
      subst hV
      obtain ⟨te', l, o, hg⟩ := hRg
      obtain ⟨x, hx, hc⟩ := ro_cell hR hrel hg
      simp [ren, Loc.addr] at hx
      refine (h3 ⟨⟨t⟩⟩ w x hl hv hc (.inr ⟨_, _, hx.symm⟩)).mono ?_
      rintro e w' ⟨N, rfl, hb⟩
      refine ⟨_, _, ρ ++ [⟨N, 0, 0⟩], H ++ [.dead], rfl, Ext.mk _ _, (hrel.later hb).pushDead _, ?_, _, _, s.push _, hk⟩
      simp [ren, renL, Loc.addr, ← s.len, ← hrel.len]
    · rename_i hn hg'
      rw [pushF_eq] at hk
      intro base hR ρ w Vs hrel hV
      simp [renL, ren] at hV
      subst hV
      obtain ⟨te', l, o, hg⟩ := hS
      obtain ⟨x, hx, hc⟩ := ro_cell hR hrel hg
      simp [ren, Loc.addr] at hx
      refine (h2 ⟨⟨t⟩⟩ w x hl (fun v e => hn v e) (fun e => hg' e) hc (.inr ⟨_, _, hx.symm⟩)).mono ?_
      rintro e w' ⟨N, rfl, hb⟩
      refine ⟨_, _, ρ ++ [⟨N, 0, 0⟩], H ++ [.dead], rfl, Ext.mk _ _, (hrel.later hb).pushDead _, ?_, _, _, s.push _, hk⟩
      simp [ren, renL, Loc.addr, ← s.len, ← hrel.len]
  · cases hk
/-! ### strings.Split -/
def ctrSplit (t9 : TypeId) : Ctr := fun _ args h n k => match args with
  | [.str s, .str sep] => chk (Nat.ble s.length 10000) (chk (Nat.ble 1 sep.length) (fN (Lib.count s sep + 1) fun c => fAVL ((Lib.splitK sep 0 (Lib.count s sep) s).map AV.str) fun l => pushF h n (.cells l t9) fun h' n' => k (.slice (.mu n) 0 c (.known c)) h' n'))
  | _ => false
theorem ctrSplit_ok {f gM : Nat} {t9 : TypeId} (hM : ∃ m, R gM 0 = some (.int .i64 m))
    (h1 : ∀ (s sep : ByteArray) (m : Int) w, s.size ≤ 10000 → 1 ≤ sep.size → w.cell? ⟨gM, 0, none⟩ = some (.int .i64 m) → Calls P f #[.string s, .string sep] w fun e w' =>
      e = .returned (.slice (some ⟨w.heap.size, 0, none⟩) (Lib.countB s sep + 1) (Lib.countB s sep + 1)) ∧ w' = w.alloc (.cells ((Lib.splitB sep 0 (Lib.countB s sep) s).map Value.string).toArray t9)) :
    CtrOk P R f (ctrSplit t9) := by
  intro m _ _ args h n k H s hk
  unfold ctrSplit at hk
  split at hk
  · rename_i t sep
    obtain ⟨hl, hk⟩ := chk_ok hk
    obtain ⟨hs, hk⟩ := chk_ok hk
    have hl := Nat.le_of_ble_eq_true hl
    have hs := Nat.le_of_ble_eq_true hs
    rw [fN_eq, fAVL_eq, pushF_eq] at hk
    intro base hR ρ w Vs hrel hV
    simp [renL, ren] at hV
    subst hV
    obtain ⟨mm, hg⟩ := hM
    obtain ⟨x, hx, hc⟩ := ro_cell hR hrel hg
    simp [ren] at hx
    subst hx
    refine (h1 ⟨⟨t⟩⟩ ⟨⟨sep⟩⟩ mm w hl hs hc).mono ?_
    rintro e w' ⟨rfl, rfl⟩
    have hren : renL ρ ((Lib.splitK sep 0 (Lib.count t sep) t).map AV.str) = some ((Lib.splitB ⟨⟨sep⟩⟩ 0 (Lib.countB ⟨⟨t⟩⟩ ⟨⟨sep⟩⟩) ⟨⟨t⟩⟩).map Value.string) := by
      have := Lib.splitB_data ⟨⟨sep⟩⟩ 0 (Lib.count t sep) ⟨⟨t⟩⟩
      dsimp only at this
      rw [← this]
      show renL ρ _ = some ((Lib.splitB ⟨⟨sep⟩⟩ 0 (Lib.count t sep) ⟨⟨t⟩⟩).map Value.string)
      generalize Lib.splitB ⟨⟨sep⟩⟩ 0 (Lib.count t sep) ⟨⟨t⟩⟩ = L
      induction L with
      | nil => rfl
      | cons b L ih => exact renL_cons_mk (by simp [ren]) ih
    have := hrel.newCells hren t9 0 0 w.drawn rfl
    refine ⟨_, _, _, _, rfl, Ext.mk _ _, this, ?_, _, _, s.push _, hk⟩
    simp [ren, Loc.addr, Cap.num, ← s.len, ← hrel.len, Lib.countB]
  · cases hk
/-! ### strings.Cut -/
def ctrCut : Ctr := fun _ args h n k => match args with
  | [.str s, .str sep] => chk (Nat.ble s.length 10000) (fStr (Lib.cut s sep).1 fun a => fStr (Lib.cut s sep).2.1 fun b => fB (Lib.cut s sep).2.2 fun t => k (.tuple [.str a, .str b, .bool t]) h n)
  | _ => false
theorem ctrCut_ok {f gM : Nat} (hM : ∃ m, R gM 0 = some (.int .i64 m))
    (h1 : ∀ (s sep : ByteArray) (m : Int) w, s.size ≤ 10000 → w.cell? ⟨gM, 0, none⟩ = some (.int .i64 m) → Calls P f #[.string s, .string sep] w fun e w' =>
      e = .returned (.tuple #[.string ⟨(Lib.cut s.data.toList sep.data.toList).1.toArray⟩, .string ⟨(Lib.cut s.data.toList sep.data.toList).2.1.toArray⟩, .bool (Lib.cut s.data.toList sep.data.toList).2.2]) ∧ Below w.heap.size w w') :
    CtrOk P R f ctrCut := by
  intro m _ _ args h n k H s hk
  unfold ctrCut at hk
  split at hk
  · rename_i t sep
    obtain ⟨hl, hk⟩ := chk_ok hk
    have hl := Nat.le_of_ble_eq_true hl
    rw [fStr_eq, fStr_eq, fB_eq] at hk
    intro base hR ρ w Vs hrel hV
    simp [renL, ren] at hV
    subst hV
    obtain ⟨mm, hg⟩ := hM
    obtain ⟨x, hx, hc⟩ := ro_cell hR hrel hg
    simp [ren] at hx
    subst hx
    refine (h1 ⟨⟨t⟩⟩ ⟨⟨sep⟩⟩ mm w hl hc).mono ?_
    rintro e w' ⟨rfl, hb⟩
    exact ⟨.tuple [.str (Lib.cut t sep).1, .str (Lib.cut t sep).2.1, .bool (Lib.cut t sep).2.2], _, ρ, H, rfl, Ext.refl _, hrel.later hb, by simp [ren, renL], h, n, s, hk⟩
  · cases hk
/-! ### strings.Join -/
def strsK (l : List AV) : (List (List UInt8) → Bool) → Bool := List.rec (motive := fun _ => (List (List UInt8) → Bool) → Bool) (fun q => q []) (fun x _ ih q => isStr x (fun s => ih fun r => q (s :: r)) false) l
theorem strsK_ok : ∀ {l : List AV} {q : List (List UInt8) → Bool}, strsK l q = true → ∃ ss, l = ss.map AV.str ∧ q ss = true
  | [], q, h => ⟨[], rfl, h⟩
  | x :: xs, q, h => by
    obtain ⟨s, hx, h1⟩ := isStr_ok (show isStr x (fun s => strsK xs fun r => q (s :: r)) false = true from h)
    obtain ⟨ss, hs, h2⟩ := strsK_ok h1
    exact ⟨s :: ss, by rw [hx, hs]; rfl, h2⟩
def ctrJoin : Ctr := fun _ args h n k => match args with
  | [.slice (.mu i) off len (.opn eo), .str sep] => match gH h i with
    | .row c _ sz => chk (Nat.beq sz 1) (chk (Nat.beq off eo) (dropK c off fun d => takeK d len fun xs => strsK xs fun ss => chk (Nat.ble (Lib.join ss sep).length 100000) (chk (Nat.ble len 100000) (fStr (Lib.join ss sep) fun r => k (.str r) h n))))
    | _ => false
  | _ => false
theorem ctrJoin_ok {f : Nat} (h1 : ∀ (bk o c : Nat) (xs : List ByteArray) (sep : ByteArray) (w : World), (∀ (j : Nat) x, xs[j]? = some x → w.cell? ⟨bk, o + j, none⟩ = some (.string x)) → bk < w.heap.size → xs.length ≤ 100000 → xs.length ≤ c →
      (Lib.join (xs.map (·.data.toList)) sep.data.toList).length ≤ 100000 → Calls P f #[.slice (some ⟨bk, o, none⟩) xs.length c, .string sep] w fun e w' => e = .returned (.string ⟨(Lib.join (xs.map (·.data.toList)) sep.data.toList).toArray⟩) ∧ Below w.heap.size w w') :
    CtrOk P R f ctrJoin := by
  intro m _ _ args h n k H s hk
  unfold ctrJoin at hk
  split at hk
  · rename_i i off len eo sep
    split at hk
    · rename_i c t sz ho
      obtain ⟨hi, hg⟩ := s.at ho rfl
      obtain ⟨e1, hk⟩ := chk_ok hk
      obtain ⟨e2, hk⟩ := chk_ok hk
      have e1 := Nat.eq_of_beq_eq_true e1
      have e2 := Nat.eq_of_beq_eq_true e2
      obtain ⟨hd, hk⟩ := dropK_ok hk
      obtain ⟨ht, hk⟩ := takeK_ok hk
      obtain ⟨ss, hss, hk⟩ := strsK_ok hk
      obtain ⟨hj, hk⟩ := chk_ok hk
      obtain ⟨hlen, hk⟩ := chk_ok hk
      have hj := Nat.le_of_ble_eq_true hj
      have hlen := Nat.le_of_ble_eq_true hlen
      rw [fStr_eq] at hk
      have ht : off + len ≤ c.length := by simp at ht; omega
      have hsl : ss.length = len := by
        have := congrArg List.length hss
        simp at this; omega
      intro base hR ρ w Vs hrel hV
      obtain ⟨x, xs, hx, hxs, rfl⟩ := renL_cons hV
      obtain ⟨y, ys, hy, hys, rfl⟩ := renL_cons hxs
      obtain rfl := renL_nil hys
      simp only [ren] at hy
      cases hy
      obtain ⟨p, hp⟩ := hrel.slot hg
      have hob := hrel.obj i _ p hg hp
      obtain ⟨C, cs, b1, b2, b3, b4, b5⟩ := hob
      simp only [ren, Loc.addr, Cap.num, hp, Option.map_some] at hx
      cases hx
      have hkk := hk
      subst e1; subst e2
      have hlt : p.blk < w.heap.size := (Array.getElem?_eq_some_iff.1 b1).1
      have hmap : (ss.map fun s => (⟨⟨s⟩⟩ : ByteArray)).map (·.data.toList) = ss := by
        rw [List.map_map]
        exact List.map_id'' (fun _ => rfl) ss
      have := h1 p.blk (p.sh + off) (p.ecap - off) (ss.map fun s => ⟨⟨s⟩⟩) ⟨⟨sep⟩⟩ w ?_ hlt (by simp; omega) (by simp; omega) (by rw [hmap]; exact hj)
      · rw [hmap] at this
        simp only [List.length_map, hsl] at this
        refine this.mono ?_
        rintro e w' ⟨rfl, hb⟩
        exact ⟨.str (Lib.join ss sep), _, ρ, H, rfl, Ext.refl _, hrel.later hb, rfl, h, n, s, hkk⟩
      · intro j x hx
        simp only [List.getElem?_map, Option.map_eq_some_iff] at hx
        obtain ⟨sj, hsj, rfl⟩ := hx
        have hjl : j < len := by have := (List.getElem?_eq_some_iff.1 hsj).1; omega
        have hcj : c[off + j]? = some (.str sj) := by
          have := congrArg (fun l => l[j]?) hss
          simp only [List.getElem?_map, hsj, Option.map_some] at this
          rw [List.getElem?_take_of_lt hjl, List.getElem?_drop] at this
          exact this
        obtain ⟨x, hx1, hx2⟩ := read1_sound hR hrel (l := .mu i) (off := off + j) (v := .str sj) (by simp [read1, hg, AO.content, hcj]) (a := ⟨p.blk, p.sh + (off + j), none⟩) (by simp [Loc.addr, hp])
        simp only [ren] at hx1
        cases hx1
        rw [← Nat.add_assoc] at hx2
        exact hx2
    · cases hk
  · cases hk
end
end
end Am
