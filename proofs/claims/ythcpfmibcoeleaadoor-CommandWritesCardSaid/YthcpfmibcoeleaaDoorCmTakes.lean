/- What the runes of a text are, as far as a command's text asks. -/
import Derived.Test.YthcpfmibcoeleaaDoorCmDots
import Derived.Laws.RangeString
import Derived.Test.YthcpfmibcoeleaaDoorIdParse
import Derived.Lib.AtoiAllCases
namespace Go.Proofs.YthcpfmibcoeleaaDoor.Cm
open Go Go.RowKit Am Go.Proofs.YthcpfmibcoeleaaDoor.Id
set_option linter.unusedSimpArgs false
set_option linter.unusedVariables false
theorem get_list (s : List UInt8) (pos : Nat) (b : UInt8) (h : s[pos]? = some b) : ∃ hp : pos < (⟨⟨s⟩⟩ : ByteArray).size, (⟨⟨s⟩⟩ : ByteArray)[pos]'hp = b := by
  obtain ⟨h1, h2⟩ := List.getElem?_eq_some_iff.1 h
  exact ⟨h1, h2⟩
theorem dec_low {s : List UInt8} {pos : Nat} {b : UInt8} (h : s[pos]? = some b) (hb : b.toNat < 128) : Utf8.decode ⟨⟨s⟩⟩ pos = (b.toNat, 1) := by
  obtain ⟨hp, he⟩ := get_list s pos b h
  rw [decode_ascii _ pos hp (by rw [he]; exact hb), he]
theorem dec_high {s : List UInt8} {pos : Nat} {b : UInt8} (h : s[pos]? = some b) (hb : 128 ≤ b.toNat) : 128 ≤ (Utf8.decode ⟨⟨s⟩⟩ pos).1 := by
  obtain ⟨hp, he⟩ := get_list s pos b h
  have h0 : ((⟨⟨s⟩⟩ : ByteArray).get! (pos + 0)).toNat = b.toNat := by
    have e : (⟨⟨s⟩⟩ : ByteArray).get! (pos + 0) = (⟨⟨s⟩⟩ : ByteArray)[pos]'hp := by
      show (⟨⟨s⟩⟩ : ByteArray).get! pos = _
      have h' : pos < s.length := (List.getElem?_eq_some_iff.1 h).1
      simp [ByteArray.get!, getElem!_pos, h']
      rfl
    rw [e, he]
  unfold Utf8.decode
  simp only [h0]
  rw [if_neg (by omega)]
  unfold Utf8.runeError
  repeat' split
  all_goals first
    | omega
    | (rename_i hh; simp only [Bool.and_eq_true, decide_eq_true_eq] at hh; have := hh.1; simp only; omega)
    | (simp only; omega)
/-- A byte that may not stand in a text: its rune may not. -/
theorem dec_odd {s : List UInt8} {pos : Nat} {b : UInt8} (h : s[pos]? = some b) (hb : fineB b = false) : (Utf8.decode ⟨⟨s⟩⟩ pos).1 < 32 ∨ 126 < (Utf8.decode ⟨⟨s⟩⟩ pos).1 := by
  unfold fineB at hb
  by_cases h1 : b.toNat < 128
  · rw [dec_low h h1]
    simp at hb
    dsimp only
    omega
  · have := dec_high h (by omega)
    omega
theorem dec_fine {s : List UInt8} {pos : Nat} {b : UInt8} (h : s[pos]? = some b) (hb : fineB b = true) : Utf8.decode ⟨⟨s⟩⟩ pos = (b.toNat, 1) ∧ 32 ≤ b.toNat ∧ b.toNat ≤ 126 := by
  unfold fineB at hb
  simp at hb
  exact ⟨dec_low h (by omega), hb.1, hb.2⟩
end Go.Proofs.YthcpfmibcoeleaaDoor.Cm
namespace Go.Proofs.YthcpfmibcoeleaaDoor.Cm
open Go Go.RowKit Am Go.Proofs.YthcpfmibcoeleaaDoor.Id
set_option maxRecDepth 100000
set_option linter.unusedSimpArgs false
set_option linter.unusedVariables false
attribute [-simp] Am.binEv Am.intBin Am.read1
attribute [local simp] binEv_lss binEv_leq binEv_gtr binEv_geq binEv_eql binEv_neq binEv_add binEv_sub binEv_mul binEv_shr58 read1_ro read1_mu binEv_seql binEv_sneq
variable {R : Ro}
theorem odd (r : Int) (H : AH) : ACalls Tryd.prog R 47 [.int .i32 r] H fun v H' => H' = H ∧ v = .bool (decide (r < 32) || decide (126 < r)) := by
  refine ACalls.of_wpE Fns.ok47 (by simp [Fns.a47]) ?_
  by_cases h : r < 32
  · simp [Fns.a47, h]
  · simp [Fns.a47, h]
theorem bodied47 : bodied Tryd.prog 47 = true := by kernel_rfl
set_option maxHeartbeats 1000000 in
theorem indexFunc (s : List UInt8) (hs : s.length ≤ 100000) (H : AH) : ACalls Tryd.prog R 78 [.str s, .fn (.func 47) [] [], .bool true] H fun v H' => (∃ E, H' = H ++ E) ∧ ∃ z : Int, v = .int .i64 z ∧ (0 ≤ z ↔ allB s = false) := by
  refine ACalls.of_wpE Fns.ok78 (by simp [Fns.a78]) ?_
  simp [Fns.a78]
  refine AWp.loop (fun e H1 => e 1 = .fn (.func 47) [] [] ∧ e 2 = .bool true ∧ e 10 = .ptr (.mu H.length) 0 ∧ ∃ i : Nat, H1 = H ++ [.siter s i] ∧ i ≤ s.length ∧ allB (s.take i) = true)
    (fun e H1 => match H1[H.length]? with | some (.siter s i) => s.length - i | _ => 0) ⟨by simp, by simp, by simp, 0, rfl, by omega, by simp [allB]⟩ ?_
  rintro e H1 ⟨h1, h2, h10, i, rfl, hi, hall⟩
  refine wpE_sound _ ?_
  by_cases hl : i < s.length
  · obtain ⟨b, hb⟩ : ∃ b, s[i]? = some b := ⟨_, List.getElem?_eq_getElem hl⟩
    have hsplit : s = s.take i ++ b :: s.drop (i + 1) := by
      obtain ⟨h, e⟩ := List.getElem?_eq_some_iff.1 hb
      rw [← e, ← List.drop_eq_getElem_cons h, List.take_append_drop]
    obtain ⟨d, hd⟩ : ∃ d, Utf8.decode ⟨⟨s⟩⟩ i = d := ⟨_, rfl⟩
    simp [h1, h2, h10, hl, hd, bodied47, fnArgs]
    refine (odd _ _).mono ?_
    rintro v H2 ⟨rfl, rfl⟩
    cases hf : fineB b with
    | true =>
      obtain ⟨e1, g1, g2⟩ := dec_fine hb hf
      rw [hd] at e1
      subst e1
      have k1 : ¬ (b.toNat : Int) < 32 := by omega
      have k2 : ¬ 126 < (b.toNat : Int) := by omega
      simp [h1, h2, h10, k1, k2, eqEv]
      refine ⟨⟨by omega, ?_⟩, by omega⟩
      unfold allB at hall ⊢
      rw [List.take_add_one, hb, List.all_append, hall]
      simp [hf]
    | false =>
      have hodd := dec_odd hb hf
      rw [hd] at hodd
      have hna : allB s = false := by rw [hsplit]; unfold allB; rw [List.all_append, List.all_cons, hf]; simp
      have hi0 : (0 : Int) ≤ (i : Int) := by omega
      by_cases k1 : (d.1 : Int) < 32
      · simp [h1, h2, h10, k1, eqEv, hna]
      · have k2 : 126 < (d.1 : Int) := by omega
        simp [h1, h2, h10, k1, k2, eqEv, hna]
  · obtain rfl : i = s.length := by omega
    rw [List.take_length] at hall
    simp [h1, h2, h10, hall]
theorem contains (s : List UInt8) (hs : s.length ≤ 100000) (H : AH) : ACalls Tryd.prog R 46 [.str s, .fn (.func 47) [] []] H fun v H' => (∃ E, H' = H ++ E) ∧ v = .bool (!allB s) := by
  refine ACalls.of_wpE Fns.ok46 (by simp [Fns.a46]) ?_
  simp [Fns.a46]
  refine ACalls.of_wpE Fns.ok60 (by simp [Fns.a60]) ?_
  simp [Fns.a60]
  refine (indexFunc s hs _).mono ?_
  rintro v H' ⟨hE, z, rfl, hz⟩
  cases h : allB s with
  | true =>
    rw [h] at hz
    have hz' : ¬ 0 ≤ z := fun e => by have := hz.1 e; cases this
    simp [hz', hE]
  | false =>
    have hz' : 0 ≤ z := hz.2 h
    simp [hz', hE]
theorem fine (s : List UInt8) (hs : s.length ≤ 100000) (H : AH) : ACalls Tryd.prog R 39 [.str s] H fun v H' => (∃ E, H' = H ++ E) ∧ v = .bool (fineF s) := by
  refine ACalls.of_wpE Fns.ok39 (by simp [Fns.a39]) ?_
  by_cases h1 : 1 ≤ s.length
  · have h1' : (1 : Int) ≤ (s.length : Int) := by omega
    by_cases h2 : s.length ≤ 200
    · have h2' : (s.length : Int) ≤ 200 := by omega
      simp [Fns.a39, h1', h2']
      refine (contains s hs _).mono ?_
      rintro v H' ⟨hE, rfl⟩
      simp [fineF, h1, h2, hE]
    · have h2' : ¬ (s.length : Int) ≤ 200 := by omega
      simp [Fns.a39, h1', h2', fineF, h2]
  · have h1' : ¬ (1 : Int) ≤ (s.length : Int) := by omega
    simp [Fns.a39, h1', fineF, h1]
theorem digits (L : Lb R) (w : List UInt8) (hw : w.length ≤ 10000) (H : AH) : ACalls Tryd.prog R 36 [.str w] H fun v H' => (∃ E, H' = H ++ E) ∧ ∃ (n : Int) (ok : Bool), v = .tuple [.int .i64 n, .bool ok] ∧ numF w = if ok then some n else none := by
  refine ACalls.of_wpE Fns.ok36 (by simp [Fns.a36]) ?_
  simp [Fns.a36]
  refine (L.atoi w _ hw).mono ?_
  rintro v H' ⟨z, y, E, rfl, rfl, hz, hn⟩
  by_cases hq : ∃ z', Lib.atoiAll w = .ok z'
  · obtain ⟨z', hq⟩ := hq
    obtain ⟨rfl, rfl⟩ := hz z' hq
    obtain ⟨b1, b2⟩ := Lib.atoiAll_bounds hq
    have hF : numF w = if Lib.itoa z = w ∧ -9999 ≤ z ∧ z ≤ 9999 then some z else none := by unfold numF; rw [hq]
    simp [eqEv]
    refine (L.itoa z _ (by omega) (by omega)).mono ?_
    rintro v H' ⟨rfl, rfl⟩
    by_cases k1 : Lib.itoa z = w
    · by_cases k2 : -9999 ≤ z
      · by_cases k3 : z ≤ 9999
        · simp [k1, k2, k3, hF]
        · simp [k1, k2, k3, hF]
      · simp [k1, k2, hF]
    · simp [k1, hF]
  · obtain ⟨t, p, rfl⟩ := hn fun z' e => hq ⟨z', e⟩
    have hF : numF w = none := by
      unfold numF
      split
      · rename_i n e; exact absurd ⟨n, e⟩ hq
      · rfl
    simp [eqEv, hF]
theorem label (n : Int) (H : AH) : ACalls Tryd.prog R 37 [.int .i64 n] H fun v H' => H' = H ∧ v = .bool (decide (0 ≤ n) && decide (n < 64)) := by
  refine ACalls.of_wpE Fns.ok37 (by simp [Fns.a37]) ?_
  by_cases h : 0 ≤ n
  · simp [Fns.a37, h]
  · simp [Fns.a37, h]
end Go.Proofs.YthcpfmibcoeleaaDoor.Cm
namespace Go.Proofs.YthcpfmibcoeleaaDoor.Cm
open Go Go.RowKit Am Go.Proofs.YthcpfmibcoeleaaDoor.Id
set_option maxRecDepth 100000
set_option linter.unusedSimpArgs false
set_option linter.unusedVariables false
attribute [-simp] Am.binEv Am.intBin Am.read1
attribute [local simp] binEv_lss binEv_leq binEv_gtr binEv_geq binEv_eql binEv_neq binEv_add binEv_sub binEv_mul binEv_shr58 read1_ro read1_mu binEv_seql binEv_sneq
variable {R : Ro}
def intsV (l : List Int) : List AV := l.map (.int .i64)
def cellsC (c : Cmd) (nv : AV) : List AV := [.str c.name, nv, .int .i64 c.pane.1, .int .i64 c.pane.2.1, .int .i64 c.pane.2.2, .str c.text]
theorem writeN_at {H : AH} {p off : Nat} {c vs : List AV} {t : TypeId} (h : H[p]? = some (.cells c t)) (hl : off + vs.length ≤ c.length) (h1 : vs.all AV.oneCell = true) : writeN H p off vs = some (H.set p (.cells (splice c off vs) t)) := by
  unfold writeN
  rw [h]
  simp only [AO.content, AO.withContent]
  rw [if_pos ⟨hl, h1⟩]
/-- A command that is being read. -/
structure CmAt (H0 H : AH) (p : Nat) (c : Cmd) (nv : AV) : Prop where
  keeps : Keeps H0 H
  low : H0.length ≤ p
  cell : H[p]? = some (.cells (cellsC c nv) 27)
  row : RowAt H nv c.nums.length 1 3 (intsV c.nums)
  apart : ∀ i o l cp, nv = .slice (.mu i) o l cp → H0.length ≤ i ∧ i ≠ p
/-- What walks along a text goes on doing so. -/
def SI (H H' : AH) : Prop := ∀ (i : Nat) (s : List UInt8) (k : Nat), H[i]? = some (AO.siter s k) → H'[i]? = some (AO.siter s k)
theorem SI.refl (H : AH) : SI H H := fun _ _ _ h => h
theorem SI.app (H E : AH) : SI H (H ++ E) := fun i s k h => by rw [List.getElem?_append_left (List.getElem?_eq_some_iff.1 h).1]; exact h
theorem SI.trans {A B C : AH} (h : SI A B) (k : SI B C) : SI A C := fun i s n e => k i s n (h i s n e)
theorem SI.set {H : AH} {p : Nat} {c : List AV} {t : TypeId} (h : H[p]? = some (.cells c t)) (o : AO) : SI H (H.set p o) := fun i s k e => by
  rw [List.getElem?_set, if_neg (by rintro rfl; rw [h] at e; cases e)]
  exact e
theorem RowAt.keep {H H' : AH} {v : AV} {k sz : Nat} {t : TypeId} {C : List AV} (h : RowAt H v k sz t C) (hk : Keeps H H') : RowAt H' v k sz t C := by
  rcases h with h | ⟨j, h1, h2, h3⟩
  · exact .inl h
  · exact .inr ⟨j, h1, by rw [hk.2 j (List.getElem?_eq_some_iff.1 h2).1]; exact h2, h3⟩
theorem CmAt.app {H0 H : AH} {p : Nat} {c : Cmd} {nv : AV} (h : CmAt H0 H p c nv) (E : AH) : CmAt H0 (H ++ E) p c nv :=
  ⟨h.keeps.trans (Keeps.app H E), h.low, by rw [List.getElem?_append_left (List.getElem?_eq_some_iff.1 h.cell).1]; exact h.cell, RowAt.keep h.row (Keeps.app H E), h.apart⟩
theorem CmAt.put {H0 H : AH} {p : Nat} {c d : Cmd} {nv : AV} (h : CmAt H0 H p c nv) (hd : d.nums = c.nums) : CmAt H0 (H.set p (.cells (cellsC d nv) 27)) p d nv := by
  have hlt := (List.getElem?_eq_some_iff.1 h.cell).1
  refine ⟨h.keeps.set h.low _, h.low, by rw [List.getElem?_set, if_pos rfl, if_pos hlt], ?_, h.apart⟩
  rw [hd]
  exact h.row.frame fun j hj => by rw [List.getElem?_set, if_neg (fun e => (h.apart j _ _ _ hj).2 e.symm)]
theorem CmAt.push {H0 H : AH} {p : Nat} {c : Cmd} {nv : AV} (h : CmAt H0 H p c nv) (n : Int) (hn : c.nums.length ≤ 100) :
    ∃ G, appendEv R (H ++ [.cells [.int .i64 n] 3]) 3 1 8 nv (.slice (.mu H.length) 0 1 (.known 1)) = some (.slice (.mu (H.length + 1)) 0 (c.nums.length + 1) (.opn 0), G) ∧
      writeN G p 1 [.slice (.mu (H.length + 1)) 0 (c.nums.length + 1) (.opn 0)] = some (G.set p (.cells (cellsC { c with nums := c.nums ++ [n] } (.slice (.mu (H.length + 1)) 0 (c.nums.length + 1) (.opn 0))) 27)) ∧
      CmAt H0 (G.set p (.cells (cellsC { c with nums := c.nums ++ [n] } (.slice (.mu (H.length + 1)) 0 (c.nums.length + 1) (.opn 0))) 27)) p { c with nums := c.nums ++ [n] } (.slice (.mu (H.length + 1)) 0 (c.nums.length + 1) (.opn 0)) ∧
      SI H (G.set p (.cells (cellsC { c with nums := c.nums ++ [n] } (.slice (.mu (H.length + 1)) 0 (c.nums.length + 1) (.opn 0))) 27)) := by
  have hlt := (List.getElem?_eq_some_iff.1 h.cell).1
  have h1 := h.app [.cells [.int .i64 n] 3]
  obtain ⟨G, hG, hl, hr, hf⟩ := append_row (R := R) (by' := 8) h1.row (src_cells (s := H.length) (m := 1) (c := [.int .i64 n]) (t := 3) (cap := .known 1) (by simp) (by simp)) (by omega) (by omega) (by omega) (by omega) (by simp [AV.oneCell]) (by simp)
  simp only [List.length_append, List.length_cons, List.length_nil, Nat.zero_add] at hG hl hr hf
  have hGp : G[p]? = some (.cells (cellsC c nv) 27) := by
    rw [hf p (by omega) (fun o l cp e => (h.apart p o l cp e).2 rfl)]
    exact h1.cell
  have hw := writeN_cell hGp (i := 1) (by simp [cellsC]) (.slice (.mu (H.length + 1)) 0 (c.nums.length + 1) (.opn 0)) rfl
  have hset : (cellsC c nv).set 1 (.slice (.mu (H.length + 1)) 0 (c.nums.length + 1) (.opn 0)) = cellsC { c with nums := c.nums ++ [n] } (.slice (.mu (H.length + 1)) 0 (c.nums.length + 1) (.opn 0)) := rfl
  rw [hset] at hw
  have hkG : Keeps H0 G := ⟨by have := h.keeps.1; omega, fun i hi => by
    have := h.keeps.1
    rw [hf i (by omega) (fun o l cp e => by have := (h.apart i o l cp e).1; omega), List.getElem?_append_left (by omega)]
    exact h.keeps.2 i hi⟩
  refine ⟨G, hG, hw, ⟨hkG.set h.low _, h.low, by rw [List.getElem?_set, if_pos rfl, if_pos (by omega)], ?_, fun i o l cp e => ?_⟩, ?_⟩
  · have hr2 : RowAt G (.slice (.mu (H.length + 1)) 0 (c.nums.length + 1) (.opn 0)) (c.nums ++ [n]).length 1 3 (intsV (c.nums ++ [n])) := by
      have e : intsV (c.nums ++ [n]) = intsV c.nums ++ [.int .i64 n] := by simp [intsV]
      rw [e, List.length_append]
      exact hr
    exact hr2.frame fun j hj => by
      simp only [AV.slice.injEq, Am.Loc.mu.injEq] at hj
      rw [List.getElem?_set, if_neg (by omega)]
  · simp only [AV.slice.injEq, Am.Loc.mu.injEq] at e
    have := h.keeps.1
    omega
  · refine SI.trans (B := G) (fun i s k e => ?_) (SI.set hGp _)
    have hi := (List.getElem?_eq_some_iff.1 e).1
    rw [hf i (by omega) (fun o l cp e2 => ?_), List.getElem?_append_left hi]
    · exact e
    · rcases h.row with ⟨h2, _⟩ | ⟨j, h2, h3, _⟩
      · rw [h2] at e2; cases e2
      · rw [h2] at e2
        simp only [AV.slice.injEq, Am.Loc.mu.injEq] at e2
        rw [e2.1, e] at h3
        cases h3
theorem parseP_pane {s : List UInt8} {v : AV} (h : parseP s v) : ∃ (q : Int × Int × Int) (ok : Bool), v = .tuple [.agg [.int .i64 q.1, .int .i64 q.2.1, .int .i64 q.2.2], .bool ok] ∧ paneF s = if ok then some q else none := by
  unfold paneF
  rcases h with ⟨a, b, c, ha, hb, hc, rfl, rfl⟩ | ⟨hn, rfl⟩
  · obtain ⟨an, rfl⟩ : ∃ n : Nat, a = n := ⟨a.toNat, by have := ha.1; omega⟩
    obtain ⟨bn, rfl⟩ : ∃ n : Nat, b = n := ⟨b.toNat, by have := hb.1; omega⟩
    obtain ⟨cn, rfl⟩ : ∃ n : Nat, c = n := ⟨c.toNat, by have := hc.1; omega⟩
    exact ⟨((an : Int), (bn : Int), (cn : Int)), true, rfl, by rw [refF_of (by have := ha.2; omega) (by have := hb.2; omega) (by have := hc.2; omega)]; rfl⟩
  · refine ⟨(0, 0, 0), false, rfl, ?_⟩
    cases hF : refF s with
    | none => rfl
    | some x =>
      obtain ⟨a, b, c⟩ := x
      obtain ⟨h1, h2, h3, h4⟩ := refF_some hF
      exact absurd h4 (hn _ _ _ ⟨by omega, by omega⟩ ⟨by omega, by omega⟩ ⟨by omega, by omega⟩)
/-- What a word comes to. -/
def TakesP (H0 H : AH) (p : Nat) (f : UInt8) (w : List UInt8) (c : Cmd) (v : AV) (H' : AH) : Prop :=
  SI H H' ∧ Keeps H0 H' ∧ ((∃ d nv, stepF f w c = some d ∧ v = .bool true ∧ CmAt H0 H' p d nv) ∨ (stepF f w c = none ∧ v = .bool false))
set_option maxHeartbeats 4000000 in
theorem takes (L : Lb R) {H0 H : AH} {p : Nat} {c : Cmd} {nv : AV} (h : CmAt H0 H p c nv) (f : UInt8) (hf : f = 108 ∨ f = 110 ∨ f = 112 ∨ f = 116) (w : List UInt8) (hw : w.length ≤ 2000) (hn : c.nums.length ≤ 100) :
    ACalls Tryd.prog R 24 [.ptr (.mu p) 0, .int .i32 (f.toNat : Int), .str w] H (TakesP H0 H p f w c) := by
  refine ACalls.of_wpE Fns.ok24 (by simp [Fns.a24]) ?_
  rcases hf with rfl | rfl | rfl | rfl
  · simp [Fns.a24]
    refine (digits L w (by omega) _).mono ?_
    rintro v H1 ⟨⟨E, hE⟩, n, ok, rfl, hnum⟩
    have h1 : CmAt H0 H1 p c nv := by rw [hE]; exact h.app E
    have hS0 : SI H H1 := by rw [hE]; exact SI.app H E
    obtain ⟨G, hG, hwr, hC, hS⟩ := h1.push (R := R) n hn
    have hp := h1.cell
    simp only [cellsC] at hp hwr
    simp [hp, hG, hwr, fillA, splice, zerosEv, AV.oneCell]
    cases ok with
    | false =>
      simp
      exact ⟨hS0.trans hS, hC.keeps, .inr ⟨by simp [stepF, hnum], rfl⟩⟩
    | true =>
      simp
      refine (label n _).mono ?_
      rintro v H2 ⟨rfl, rfl⟩
      by_cases g : 0 ≤ n ∧ n < 64
      · simp [g.1, g.2]
        exact ⟨hS0.trans hS, hC.keeps, .inl ⟨_, _, by simp [stepF, hnum, g], rfl, hC⟩⟩
      · have g' : (decide (0 ≤ n) && decide (n < 64)) = false := by rw [← Bool.decide_and]; exact decide_eq_false g
        simp [g']
        exact ⟨hS0.trans hS, hC.keeps, .inr ⟨by simp [stepF, hnum, g], rfl⟩⟩
  · simp [Fns.a24]
    refine (digits L w (by omega) _).mono ?_
    rintro v H1 ⟨⟨E, hE⟩, n, ok, rfl, hnum⟩
    have h1 : CmAt H0 H1 p c nv := by rw [hE]; exact h.app E
    have hS0 : SI H H1 := by rw [hE]; exact SI.app H E
    obtain ⟨G, hG, hwr, hC, hS⟩ := h1.push (R := R) n hn
    have hp := h1.cell
    simp only [cellsC] at hp hwr
    simp [hp, hG, hwr, fillA, splice, zerosEv, AV.oneCell]
    cases ok with
    | false =>
      simp
      exact ⟨hS0.trans hS, hC.keeps, .inr ⟨by simp [stepF, hnum], rfl⟩⟩
    | true =>
      simp
      exact ⟨hS0.trans hS, hC.keeps, .inl ⟨_, _, by simp [stepF, hnum], rfl, hC⟩⟩
  · simp [Fns.a24]
    refine (Id.parse L w (by omega) _).mono ?_
    rintro v H1 ⟨hpp, E, hE⟩
    obtain ⟨q, ok, rfl, hpn⟩ := parseP_pane hpp
    have hwl := writeN_last0 H1 (old := [.int .i64 0, .int .i64 0, .int .i64 0]) (new := [.int .i64 q.1, .int .i64 q.2.1, .int .i64 q.2.2]) 25 rfl rfl
    have h10 : CmAt H0 H1 p c nv := by rw [hE]; exact h.app E
    have hS0 : SI H H1 := by rw [hE]; exact SI.app H E
    have h1 := h10.app [.cells [.int .i64 q.1, .int .i64 q.2.1, .int .i64 q.2.2] 25]
    have hC := h1.put (d := { c with pane := q }) rfl
    have hp := h1.cell
    have hlt := (List.getElem?_eq_some_iff.1 hp).1
    have hwr := writeN_at h1.cell (off := 2) (vs := [.int .i64 q.1, .int .i64 q.2.1, .int .i64 q.2.2]) (by simp [cellsC]) rfl
    have hset : splice (cellsC c nv) 2 [.int .i64 q.1, .int .i64 q.2.1, .int .i64 q.2.2] = cellsC { c with pane := q } nv := rfl
    rw [hset] at hwr
    have hS : SI H ((H1 ++ [AO.cells [.int .i64 q.1, .int .i64 q.2.1, .int .i64 q.2.2] 25]).set p (.cells (cellsC { c with pane := q } nv) 27)) := (hS0.trans (SI.app _ _)).trans (SI.set hp _)
    simp [hwl, hwr, AV.oneCell]
    cases ok with
    | true => exact ⟨hS, hC.keeps, .inl ⟨_, _, by simp [stepF, hpn], rfl, hC⟩⟩
    | false => exact ⟨hS, hC.keeps, .inr ⟨by simp [stepF, hpn], rfl⟩⟩
  · simp [Fns.a24]
    have hwr := writeN_cell h.cell (i := 5) (by simp [cellsC]) (.str w) rfl
    have hset : (cellsC c nv).set 5 (.str w) = cellsC { c with text := w } nv := rfl
    rw [hset] at hwr
    have hC := h.put (d := { c with text := w }) rfl
    have hS := SI.set h.cell (.cells (cellsC { c with text := w } nv) 27)
    simp [hwr]
    refine (fine w (by omega) _).mono ?_
    rintro v H1 ⟨⟨E, rfl⟩, rfl⟩
    have hC2 := hC.app E
    cases hf : fineF w with
    | true =>
      simp
      exact ⟨hS.trans (SI.app _ E), hC2.keeps, .inl ⟨_, _, by simp [stepF, hf], rfl, hC2⟩⟩
    | false =>
      simp
      exact ⟨hS.trans (SI.app _ E), hC2.keeps, .inr ⟨by simp [stepF, hf], rfl⟩⟩
end Go.Proofs.YthcpfmibcoeleaaDoor.Cm
