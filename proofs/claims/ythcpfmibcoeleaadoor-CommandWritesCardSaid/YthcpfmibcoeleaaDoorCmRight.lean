/- Two commands are alike: what the document's code computes. -/
import Derived.Test.YthcpfmibcoeleaaDoorCmParse
import Derived.Test.YthcpfmibcoeleaaDoorIdEq
import Derived.Test.YthcpfmibcoeleaaDoorCmDots
namespace Go.Proofs.YthcpfmibcoeleaaDoor.Cm
open Go Go.RowKit Am Go.Proofs.YthcpfmibcoeleaaDoor.Id
set_option maxRecDepth 100000
set_option linter.unusedSimpArgs false
set_option linter.unusedVariables false
attribute [-simp] Am.binEv Am.intBin Am.read1
attribute [local simp] binEv_lss binEv_leq binEv_gtr binEv_geq binEv_eql binEv_neq binEv_add binEv_sub binEv_mul binEv_shr58 read1_ro read1_mu binEv_seql binEv_sneq
variable {R : Ro}
/-- A slice of whole numbers that may be read. -/
def RdI (R : Ro) (H : AH) (v : AV) (L : List Int) : Prop := (v = .nilslice ∧ L = []) ∨ ∃ j off cp, v = .slice j off L.length cp ∧ ∀ i x, L[i]? = some x → read1 R H j (off + i) = some (.int .i64 x)
theorem RdI.one {H : AH} {v : AV} {L : List Int} (h : RdI R H v L) : v.oneCell = true := by
  rcases h with ⟨rfl, _⟩ | ⟨j, off, cp, rfl, _⟩ <;> rfl
theorem RdI.of_row {H : AH} {v : AV} {L : List Int} (h : RowAt H v L.length 1 3 (intsV L)) : RdI R H v L := by
  rcases h with ⟨h1, h2, _⟩ | ⟨j, h1, h2, _⟩
  · exact .inl ⟨h1, List.length_eq_zero_iff.1 h2⟩
  · refine .inr ⟨_, _, _, h1, fun i x hx => ?_⟩
    rw [read1_mu, h2]
    simp [AO.content, intsV, hx]
theorem RdI.keep {H H' : AH} {v : AV} {L : List Int} (h : RdI R H v L) (hk : Keeps H H') : RdI R H' v L := by
  rcases h with h | ⟨j, off, cp, h1, h2⟩
  · exact .inl h
  · refine .inr ⟨j, off, cp, h1, fun i x hx => ?_⟩
    have := h2 i x hx
    cases j with
    | ro b => exact this
    | mu j =>
      rw [read1_mu] at this ⊢
      cases hj : H[j]? with
      | none => rw [hj] at this; simp at this
      | some o =>
        rw [hk.2 j (List.getElem?_eq_some_iff.1 hj).1, hj]
        rw [hj] at this
        exact this
def sameF (c d : Cmd) : Bool := decide (c.name = d.name) && decide (c.pane = d.pane) && decide (c.text = d.text) && decide (c.nums = d.nums)
theorem same_self (c : Cmd) : sameF c c = true := by simp [sameF]
def cOf : Res → Cmd
  | .ok c => c
  | _ => named []
theorem parse_rd {H H' : AH} {line : List UInt8} {v : AV} (h : ParseP H line v H') : ∃ nv, v = .tuple [.agg (cellsC (cOf (parseF line)) nv), .int .i64 (codeR (parseF line))] ∧ RdI R H' nv (cOf (parseF line)).nums := by
  obtain ⟨_, h⟩ := h
  cases hp : parseF line with
  | ok c =>
    rw [hp] at h
    obtain ⟨nv, rfl, hr, _⟩ := h
    exact ⟨nv, rfl, RdI.of_row hr⟩
  | _ =>
    rw [hp] at h
    exact ⟨.nilslice, h, .inl ⟨rfl, rfl⟩⟩
theorem given {cs : List AV} (hl : cs.length = 6) (h1 : cs.all AV.oneCell = true) (H : AH) : ACalls Tryd.prog R 13 [.agg cs] H fun v H' => v = .agg cs ∧ ∃ E, H' = H ++ E := by
  refine ACalls.of_wpE Fns.ok13 (by simp [Fns.a13]) ?_
  have h2 : ∀ x ∈ cs, x.oneCell = true := List.all_eq_true.1 h1
  have ht : cs.take 6 = cs := List.take_of_length_le (by omega)
  have hwl := writeN_last0 (H ++ [.cells cs 27]) (old := zeros6) (new := cs) 31 (by rw [hl]; rfl) h1
  simp only [zeros6] at hwl
  simp at hwl
  simp [Fns.a13, h1, h2, hl, ht, AV.oneCell, hwl]
set_option maxHeartbeats 8000000 in
theorem rsame {c d : Cmd} {nv mv : AV} {H : AH} (hc : RdI R H nv c.nums) (hd : RdI R H mv d.nums) (hcl : c.nums.length ≤ 1000) (hdl : d.nums.length ≤ 1000) : ACalls Tryd.prog R 12 [.agg (cellsC c nv), .agg (cellsC d mv)] H fun v H' => (∃ E, H' = H ++ E) ∧ v = .bool (sameF c d) := by
  refine ACalls.of_wpE Fns.ok12 (by simp [Fns.a12]) ?_
  have oc := one_cells (c := c) hc.one
  have od := one_cells (c := d) hd.one
  simp only [cellsC] at oc od
  have hpe := eqP c.pane.1 c.pane.2.1 c.pane.2.2 d.pane.1 d.pane.2.1 d.pane.2.2
  have hpq : (c.pane.1 = d.pane.1 ∧ c.pane.2.1 = d.pane.2.1 ∧ c.pane.2.2 = d.pane.2.2) ↔ c.pane = d.pane := by
    constructor
    · rintro ⟨h1, h2, h3⟩
      exact Prod.ext h1 (Prod.ext h2 h3)
    · intro h; rw [h]; exact ⟨rfl, rfl, rfl⟩
  simp only [fieldsP, hpq] at hpe
  simp only [eqEv] at hpe
  have hc1 := hc.one
  have hd1 := hd.one
  by_cases hname : c.name = d.name
  · by_cases hpane : c.pane = d.pane
    · rw [decide_eq_true hpane] at hpe
      by_cases htext : c.text = d.text
      · by_cases hlen : c.nums.length = d.nums.length
        · have hlen' : (c.nums.length : Int) = (d.nums.length : Int) := by omega
          by_cases hnil : c.nums = []
          · have hnil' : d.nums = [] := by rw [hnil] at hlen; exact List.length_eq_zero_iff.1 hlen.symm
            rcases hc with ⟨rfl, hc0⟩ | ⟨j, o, cp, rfl, hcr⟩
            · rcases hd with ⟨rfl, hd0⟩ | ⟨j2, o2, cp2, rfl, hdr⟩
              · simp [Fns.a12, cellsC, AV.oneCell, oc, od, hname, hpe, htext]
                refine AWp.loop_once (wpE_sound _ ?_)
                simp [sameF, hname, hpane, htext, hnil, hnil']
              · simp [Fns.a12, cellsC, AV.oneCell, oc, od, hname, hpe, htext, hnil']
                refine AWp.loop_once (wpE_sound _ ?_)
                simp [sameF, hname, hpane, htext, hnil, hnil']
            · rcases hd with ⟨rfl, hd0⟩ | ⟨j2, o2, cp2, rfl, hdr⟩
              · simp [Fns.a12, cellsC, AV.oneCell, oc, od, hname, hpe, htext, hnil]
                refine AWp.loop_once (wpE_sound _ ?_)
                simp [sameF, hname, hpane, htext, hnil, hnil']
              · simp [Fns.a12, cellsC, AV.oneCell, oc, od, hname, hpe, htext, hnil, hnil']
                refine AWp.loop_once (wpE_sound _ ?_)
                simp [sameF, hname, hpane, htext, hnil, hnil']
          · rcases hc with ⟨_, hc0⟩ | ⟨j, o, cp, rfl, hcr⟩
            · exact absurd hc0 hnil
            · rcases hd with ⟨_, hd0⟩ | ⟨j2, o2, cp2, rfl, hdr⟩
              · rw [hd0] at hlen; exact absurd (List.length_eq_zero_iff.1 hlen) hnil
              · simp [Fns.a12, cellsC, AV.oneCell, oc, od, hname, hpe, htext, hlen']
                obtain ⟨H1, hH1⟩ : ∃ H1 : AH, H1 = H ++ [AO.cells (cellsC c (.slice j o c.nums.length cp)) 31, AO.cells (cellsC d (.slice j2 o2 d.nums.length cp2)) 31] := ⟨_, rfl⟩
                have hk : Keeps H H1 := by rw [hH1]; exact Keeps.app _ _
                have rc := RdI.keep (R := R) (.inr ⟨j, o, cp, rfl, hcr⟩ : RdI R H (.slice j o c.nums.length cp) c.nums) hk
                have rd := RdI.keep (R := R) (.inr ⟨j2, o2, cp2, rfl, hdr⟩ : RdI R H (.slice j2 o2 d.nums.length cp2) d.nums) hk
                have hp1 : H1[H.length]? = some (.cells [.str c.name, .slice j o c.nums.length cp, .int .i64 c.pane.1, .int .i64 c.pane.2.1, .int .i64 c.pane.2.2, .str c.text] 31) := by rw [hH1]; simp [cellsC]
                have hp2 : H1[H.length + 1]? = some (.cells [.str d.name, .slice j2 o2 d.nums.length cp2, .int .i64 d.pane.1, .int .i64 d.pane.2.1, .int .i64 d.pane.2.2, .str d.text] 31) := by rw [hH1]; simp [cellsC]
                refine AWp.loop (fun e H2 => H2 = H1 ∧ e 2 = .ptr (.mu H.length) 0 ∧ e 3 = .ptr (.mu (H.length + 1)) 0 ∧ ∃ i : Nat, e 5 = .int .i64 i ∧ i ≤ c.nums.length ∧ c.nums.take i = d.nums.take i)
                  (fun e _ => match e 5 with | .int _ i => ((c.nums.length : Int) - i).toNat | _ => 0) ⟨by rw [hH1]; simp [cellsC, hname, htext, hpane], by simp, by simp, 0, by simp, by omega, by simp⟩ ?_
                rintro e H2 ⟨rfl, h2, h3, i, h5, hi, htk⟩
                refine wpE_sound _ ?_
                have hE : ∃ E, H2 = H ++ E := ⟨_, hH1⟩
                by_cases hl : i < c.nums.length
                · have hl' : (i : Int) < (c.nums.length : Int) := by omega
                  have hl2 : (i : Int) < (d.nums.length : Int) := by omega
                  have hw1 : IntKind.i64.wrap ((i : Int) + 1) = (i : Int) + 1 := i64_ok _ (by omega) (by omega)
                  obtain ⟨x, hx⟩ : ∃ x, c.nums[i]? = some x := ⟨_, List.getElem?_eq_getElem hl⟩
                  obtain ⟨y, hy⟩ : ∃ y, d.nums[i]? = some y := ⟨_, List.getElem?_eq_getElem (by omega)⟩
                  have fx : read1 R H2 j (o + i) = some (.int .i64 x) := by
                    rcases rc with ⟨h, _⟩ | ⟨j', o', cp', h, hr⟩
                    · cases h
                    · cases h; exact hr i x hx
                  have fy : read1 R H2 j2 (o2 + i) = some (.int .i64 y) := by
                    rcases rd with ⟨h, _⟩ | ⟨j', o', cp', h, hr⟩
                    · cases h
                    · cases h; exact hr i y hy
                  simp [h2, h3, h5, hp1, hp2, hl, hl', hl2]
                  refine AWp.sched [0, 1, 2, 3, 4, 5, 6, 7, 8, 9, 10] Fns.mixed (by decide +kernel) ?_
                  by_cases hxy : x = y
                  · simp [h2, h3, h5, hp1, hp2, hl, hl', hl2, fx, fy, hxy, hw1]
                    refine ⟨⟨i + 1, by omega, by omega, ?_⟩, by omega⟩
                    rw [List.take_add_one, List.take_add_one, htk, hx, hy, hxy]
                  · have hne : ¬ c.nums = d.nums := fun e => hxy (by rw [e, hy] at hx; exact (Option.some.inj hx).symm)
                    simp [h2, h3, h5, hp1, hp2, hl, hl', hl2, fx, fy, hxy, hw1]
                    exact ⟨hE, by simp [sameF, hne]⟩
                · obtain rfl : i = c.nums.length := by omega
                  rw [List.take_length, hlen, List.take_length] at htk
                  simp [h2, h3, h5, hp1]
                  exact ⟨hE, by simp [sameF, hname, hpane, htext, htk]⟩
        · have hlen' : ¬ (c.nums.length : Int) = (d.nums.length : Int) := by omega
          have hne : ¬ c.nums = d.nums := fun e => hlen (by rw [e])
          rcases hc with ⟨rfl, hc0⟩ | ⟨j, o, cp, rfl, hcr⟩
          · rcases hd with ⟨rfl, hd0⟩ | ⟨j2, o2, cp2, rfl, hdr⟩
            · exact absurd (hc0.trans hd0.symm) hne
            · have hz : ¬ (0 : Int) = (d.nums.length : Int) := by rw [hc0] at hlen'; simpa using hlen'
              simp [Fns.a12, cellsC, AV.oneCell, oc, od, hname, hpe, htext, hz, sameF, hne]
          · rcases hd with ⟨rfl, hd0⟩ | ⟨j2, o2, cp2, rfl, hdr⟩
            · have hz : ¬ (c.nums.length : Int) = (0 : Int) := by rw [hd0] at hlen'; simpa using hlen'
              have hz' : ¬ c.nums = [] := fun e => hz (by rw [e]; rfl)
              simp [Fns.a12, cellsC, AV.oneCell, oc, od, hname, hpe, htext, hz, hz', sameF, hne]
            · simp [Fns.a12, cellsC, AV.oneCell, oc, od, hname, hpe, htext, hlen, hlen', sameF, hne]
      · rcases hc with ⟨rfl, _⟩ | ⟨j, o, cp, rfl, _⟩ <;> rcases hd with ⟨rfl, _⟩ | ⟨j2, o2, cp2, rfl, _⟩ <;> simp [Fns.a12, cellsC, AV.oneCell, oc, od, hname, hpe, htext, sameF]
    · rw [decide_eq_false hpane] at hpe
      rcases hc with ⟨rfl, _⟩ | ⟨j, o, cp, rfl, _⟩ <;> rcases hd with ⟨rfl, _⟩ | ⟨j2, o2, cp2, rfl, _⟩ <;> simp [Fns.a12, cellsC, AV.oneCell, oc, od, hname, hpe, sameF, hpane]
  · rcases hc with ⟨rfl, _⟩ | ⟨j, o, cp, rfl, _⟩ <;> rcases hd with ⟨rfl, _⟩ | ⟨j2, o2, cp2, rfl, _⟩ <;> simp [Fns.a12, cellsC, AV.oneCell, oc, od, hname, sameF]
end Go.Proofs.YthcpfmibcoeleaaDoor.Cm
namespace Go.Proofs.YthcpfmibcoeleaaDoor.Cm
open Go Go.RowKit Am Go.Proofs.YthcpfmibcoeleaaDoor.Id
set_option linter.unusedSimpArgs false
set_option linter.unusedVariables false
def mayP (p : Int × Int × Int) : Prop := mayI p.1 ∧ mayI p.2.1 ∧ mayI p.2.2
instance (p : Int × Int × Int) : Decidable (mayP p) := by unfold mayP; exact inferInstance
def wordsP3 (p : Int × Int × Int) : List UInt8 := wordsF p.1 p.2.1 p.2.2
/-- A command's line, letter by letter, and what of it was used. -/
def buildF : List UInt8 → List Int → Cmd → List UInt8 → Cmd → Option (List UInt8 × Cmd)
  | [], _, _, s, u => some (s, u)
  | f :: fs, N, c, s, u => if f = 108 ∨ f = 110 then (match N with
      | [] => none
      | n :: N' => buildF fs N' c (s ++ 32 :: Lib.itoa n) { u with nums := u.nums ++ [n] })
    else if f = 112 then (if mayP c.pane then buildF fs N c (s ++ 32 :: wordsP3 c.pane) { u with pane := c.pane } else none)
    else buildF fs N c (s ++ 32 :: c.text) { u with text := c.text }
theorem same_eq {c d : Cmd} (h : sameF c d = true) : c = d := by
  unfold sameF at h
  simp at h
  obtain ⟨⟨⟨h1, h2⟩, h3⟩, h4⟩ := h
  cases c; cases d
  simp_all
def lineOk (c : Cmd) (s : List UInt8) : Prop := ∃ form, formOf c.name = some form ∧ buildF form c.nums c c.name (named c.name) = some (s, c) ∧ parseF s = .ok c
theorem line_one {c : Cmd} {s t : List UInt8} (h : lineOk c s) (k : lineOk c t) : s = t := by
  obtain ⟨f, h1, h2, _⟩ := h
  obtain ⟨g, k1, k2, _⟩ := k
  rw [h1] at k1
  cases k1
  rw [h2] at k2
  cases k2
  rfl
def LineP (c : Cmd) (v : AV) : Prop := (∃ s, lineOk c s ∧ v = .tuple [.str s, .bool true]) ∨ ((∀ s, ¬ lineOk c s) ∧ v = .tuple [.str [], .bool false])
def okForm : List UInt8 → Bool
  | [] => true
  | f :: fs => okForm fs && (decide (f ≠ 112) || fs.all fun b => decide (b ≠ 112)) && (decide (f ≠ 116) || fs.isEmpty) && (decide (f = 108) || decide (f = 110) || decide (f = 112) || decide (f = 116))
theorem form_ok {s form : List UInt8} (h : formOf s = some form) : okForm form = true := by
  have key : ∀ tb : Table, (tb.all fun p => okForm p.2) = true → lookP s tb = some form → okForm form = true := by
    intro tb
    induction tb with
    | nil => intro _ h; cases h
    | cons p tb ih =>
      intro ha h
      rw [List.all_cons, Bool.and_eq_true] at ha
      unfold lookP at h
      split at h
      · cases h; exact ha.1
      · exact ih ha.2 h
  exact key Fns.table (by decide +kernel) h
def tailOf (more : Bool) (rest : List UInt8) : List UInt8 := if more then 32 :: rest else []
theorem cut_join (s : List UInt8) : s = (cutB s).1 ++ tailOf (cutB s).2.2 (cutB s).2.1 := by
  rcases blank_cases s with h | ⟨x, r, rfl, h⟩
  · rw [cutB_miss h]; simp [tailOf]
  · rw [cutB_hit h]; simp [tailOf]
theorem numF_itoa {w : List UInt8} {n : Int} (h : numF w = some n) : Lib.itoa n = w ∧ -9999 ≤ n ∧ n ≤ 9999 := by
  unfold numF at h
  split at h
  · split at h
    · rename_i hc; cases h; exact hc
    · cases h
  · cases h
theorem paneF_words {w : List UInt8} {p : Int × Int × Int} (h : paneF w = some p) : mayP p ∧ wordsP3 p = w := by
  unfold paneF at h
  cases hF : refF w with
  | none => rw [hF] at h; cases h
  | some x =>
    obtain ⟨a, b, c⟩ := x
    rw [hF] at h
    cases h
    obtain ⟨h1, h2, h3, h4⟩ := refF_some hF
    exact ⟨⟨⟨by show (0 : Int) ≤ (a : Int); omega, by show (a : Int) ≤ 2147483647; omega⟩, ⟨by show (0 : Int) ≤ (b : Int); omega, by show (b : Int) ≤ 2147483647; omega⟩, ⟨by show (0 : Int) ≤ (c : Int); omega, by show (c : Int) ≤ 2147483647; omega⟩⟩, h4.symm⟩
theorem step_text' (w : List UInt8) (c : Cmd) : stepF 116 w c = if fineF w then some { c with text := w } else none := by
  unfold stepF
  rw [if_neg (by decide), if_neg (by decide), if_neg (by decide)]
theorem inv : ∀ (fs : List UInt8) (c d : Cmd) (rest : List UInt8) (more : Bool), okForm fs = true → loopF fs c rest more = some d →
    ∃ N, d.nums = c.nums ++ N ∧ d.name = c.name ∧ ((∀ b ∈ fs, b ≠ 112) → d.pane = c.pane) ∧ (∀ n ∈ N, -9999 ≤ n ∧ n ≤ 9999) ∧ ∀ s, buildF fs N d s c = some (s ++ tailOf more rest, d)
  | [], c, d, rest, more, _, h => by
    unfold loopF at h
    split at h
    · cases h
    · rename_i hm
      cases h
      have : more = false := by cases more <;> simp_all
      exact ⟨[], by simp, rfl, fun _ => rfl, by simp, fun s => by simp [buildF, tailOf, this]⟩
  | f :: fs, c, d, rest, more, ho, h => by
    unfold okForm at ho
    simp only [Bool.and_eq_true, Bool.or_eq_true, decide_eq_true_eq] at ho
    obtain ⟨⟨⟨ho1, ho2⟩, ho3⟩, ho4⟩ := ho
    unfold loopF at h
    split at h
    · rename_i hm
      have hmore : more = true := hm
      subst hmore
      split at h
      · rename_i h116
        have hfs : fs = [] := by
          rcases ho3 with h' | h'
          · exact absurd h116 h'
          · exact List.isEmpty_iff.1 h'
        subst hfs h116
        split at h
        · rename_i c1 hs
          unfold loopF at h
          simp at h
          subst h
          rw [step_text'] at hs
          split at hs
          · cases hs
            exact ⟨[], by simp, rfl, fun _ => rfl, by simp, fun s => by simp [buildF, tailOf]⟩
          · cases hs
        · cases h
      · rename_i h116
        split at h
        · rename_i c1 hs
          obtain ⟨N, e1, e2, e3, e4, e5⟩ := inv fs c1 d _ _ ho1 h
          have hj := cut_join rest
          by_cases hln : f = 108 ∨ f = 110
          · obtain ⟨n, hn, hc1⟩ : ∃ n, numF (cutB rest).1 = some n ∧ c1 = { c with nums := c.nums ++ [n] } := by
              unfold stepF at hs
              rcases hln with rfl | rfl
              · rw [if_pos rfl] at hs
                cases hq : numF (cutB rest).1 with
                | none => rw [hq] at hs; cases hs
                | some n =>
                  rw [hq] at hs
                  dsimp only at hs
                  split at hs
                  · cases hs; exact ⟨n, rfl, rfl⟩
                  · cases hs
              · rw [if_neg (by decide), if_pos rfl] at hs
                cases hq : numF (cutB rest).1 with
                | none => rw [hq] at hs; cases hs
                | some n => rw [hq] at hs; cases hs; exact ⟨n, rfl, rfl⟩
            obtain ⟨hw, hb⟩ := numF_itoa hn
            subst hc1
            refine ⟨n :: N, by rw [e1]; simp, e2, fun hall => e3 fun b hb => hall b (by simp [hb]), fun m hm => ?_, fun s => ?_⟩
            · rcases List.mem_cons.1 hm with rfl | hm
              · exact hb
              · exact e4 m hm
            · unfold buildF
              rw [if_pos hln]
              dsimp only
              rw [e5]
              congr 2
              rw [hw]
              unfold tailOf at hj ⊢
              rw [if_pos rfl]
              conv => rhs; rw [hj]
              simp
          · have hf : f = 112 := by
              rcases ho4 with ((h' | h') | h') | h'
              · exact absurd (.inl h') hln
              · exact absurd (.inr h') hln
              · exact h'
              · exact absurd h' h116
            subst hf
            obtain ⟨p, hp, hc1⟩ : ∃ p, paneF (cutB rest).1 = some p ∧ c1 = { c with pane := p } := by
              unfold stepF at hs
              rw [if_neg (by decide), if_neg (by decide), if_pos rfl] at hs
              cases hq : paneF (cutB rest).1 with
              | none => rw [hq] at hs; cases hs
              | some p => rw [hq] at hs; cases hs; exact ⟨p, rfl, rfl⟩
            obtain ⟨hmay, hw⟩ := paneF_words hp
            subst hc1
            have hno : ∀ b ∈ fs, b ≠ 112 := by
              rcases ho2 with h' | h'
              · exact absurd rfl h'
              · intro b hb
                have := List.all_eq_true.1 h' b hb
                simpa using this
            have hdp : d.pane = p := e3 hno
            refine ⟨N, e1, e2, fun hall => absurd rfl (hall 112 (by simp)), e4, fun s => ?_⟩
            unfold buildF
            rw [if_neg hln, if_pos rfl, hdp, if_pos hmay, e5]
            congr 2
            rw [hw]
            unfold tailOf at hj ⊢
            rw [if_pos rfl]
            conv => rhs; rw [hj]
            simp
        · cases h
    · cases h
theorem parse_line {line : List UInt8} {d : Cmd} (h : parseF line = .ok d) : lineOk d line ∧ d.name.length ≤ 256 ∧ (∀ n ∈ d.nums, -9999 ≤ n ∧ n ≤ 9999) ∧ line.length ≤ 256 := by
  have hp := h
  unfold parseF at h
  split at h
  · cases h
  · rename_i hlong
    cases hf : formOf (cutB line).1 with
    | none => rw [hf] at h; cases h
    | some form =>
      rw [hf] at h
      dsimp only at h
      cases hl : loopF form (named (cutB line).1) (cutB line).2.1 (cutB line).2.2 with
      | none => rw [hl] at h; cases h
      | some d' =>
        rw [hl] at h
        cases h
        obtain ⟨N, e1, e2, e3, e4, e5⟩ := inv _ _ _ _ _ (form_ok hf) hl
        have hN : d.nums = N := by rw [e1]; rfl
        have hnm : d.name = (cutB line).1 := e2
        refine ⟨⟨form, by rw [hnm]; exact hf, ?_, hp⟩, by rw [hnm]; have := (cutB_len line).1; omega, by rw [hN]; exact e4, by omega⟩
        rw [hN, hnm, e5, ← cut_join]
end Go.Proofs.YthcpfmibcoeleaaDoor.Cm
namespace Go.Proofs.YthcpfmibcoeleaaDoor.Cm
open Go Go.RowKit Am Go.Proofs.YthcpfmibcoeleaaDoor.Id
set_option linter.unusedSimpArgs false
set_option linter.unusedVariables false
/-- The document's walk along a form: the numbers that are left, whether the pane and the text may be. -/
def rightL : List UInt8 → List Int → Bool → Bool → Cmd → Bool
  | [], N, p, t, _ => decide (N = []) && p && t
  | f :: fs, N, p, t, c => if f = 108 ∨ f = 110 then (match N with
      | [] => false
      | n :: N' => if (f = 108 ∧ ¬ (0 ≤ n ∧ n ≤ 63)) ∨ ¬ (-9999 ≤ n ∧ n ≤ 9999) then false else rightL fs N' p t c)
    else if f = 112 then rightL fs N (decide (mayP c.pane)) t c
    else rightL fs N p (fineF c.text) c
def rightF (c : Cmd) : Bool := match formOf c.name with
  | none => false
  | some form => rightL form c.nums (decide (c.pane = (0, 0, 0))) (decide (c.text = [])) c
theorem digit_ne32 {l : List UInt8} (h : ∀ x ∈ l, 48 ≤ x.toNat ∧ x.toNat ≤ 57) : ∀ x ∈ l, x ≠ 32 := fun x hx e => by
  have := (h x hx).1
  rw [e] at this
  exact absurd this (by decide)
theorem itoa_ne32 (n : Int) : ∀ x ∈ Lib.itoa n, x ≠ 32 := by
  by_cases hn : n < 0
  · rw [itoa_neg hn]
    intro x hx
    rcases List.mem_cons.1 hx with rfl | hx
    · decide
    · exact digit_ne32 (dec_digit _) x hx
  · exact digit_ne32 (itoa_digit (by omega))
theorem words_ne32 {p : Int × Int × Int} (h : mayP p) : ∀ x ∈ wordsP3 p, x ≠ 32 := by
  unfold wordsP3 wordsF
  intro x hx
  simp only [List.mem_cons, List.mem_append] at hx
  rcases hx with rfl | hx | rfl | hx | rfl | hx
  · decide
  · exact itoa_ne32 _ x hx
  · decide
  · exact itoa_ne32 _ x hx
  · decide
  · exact itoa_ne32 _ x hx
theorem cut_tail {x : List UInt8} (h : ∀ b ∈ x, b ≠ 32) (more : Bool) (rest : List UInt8) (hr : more = false → rest = []) : cutB (x ++ tailOf more rest) = (x, rest, more) := by
  cases more with
  | true => exact cutB_hit h rest
  | false => rw [hr rfl]; unfold tailOf; simp; exact cutB_miss h
theorem numF_of {n : Int} (h1 : -9999 ≤ n) (h2 : n ≤ 9999) : numF (Lib.itoa n) = some n := by
  unfold numF
  rw [atoi_itoa2 (by omega) (by omega)]
  dsimp only
  rw [if_pos ⟨rfl, h1, h2⟩]
theorem paneF_of {p : Int × Int × Int} (h : mayP p) : paneF (wordsP3 p) = some p := by
  obtain ⟨a, b, c⟩ := p
  obtain ⟨h1, h2, h3⟩ := h
  dsimp only at h1 h2 h3
  obtain ⟨an, rfl⟩ : ∃ n : Nat, a = n := ⟨a.toNat, by have := h1.1; omega⟩
  obtain ⟨bn, rfl⟩ : ∃ n : Nat, b = n := ⟨b.toNat, by have := h2.1; omega⟩
  obtain ⟨cn, rfl⟩ : ∃ n : Nat, c = n := ⟨c.toNat, by have := h3.1; omega⟩
  unfold paneF wordsP3
  rw [refF_of (by have := h1.2; omega) (by have := h2.2; omega) (by have := h3.2; omega)]
  rfl
/-- How long what stands for a form's letters may be. -/
def roomF : List UInt8 → Nat
  | [] => 0
  | f :: fs => (if f = 108 ∨ f = 110 then 6 else if f = 112 then 40 else 201) + roomF fs
theorem itoa_len5 {n : Int} (h1 : -9999 ≤ n) (h2 : n ≤ 9999) : (Lib.itoa n).length ≤ 5 := by
  by_cases hn : n < 0
  · rw [itoa_neg hn]
    have := dec_len2 3 n.natAbs (by omega)
    simp
    omega
  · rw [itoa_pos (by omega)]
    have := dec_len2 3 n.toNat (by omega)
    omega
theorem words_len3 {p : Int × Int × Int} (h : mayP p) : (wordsP3 p).length ≤ 39 := by
  have g1 := itoa_len h.1
  have g2 := itoa_len h.2.1
  have g3 := itoa_len h.2.2
  unfold wordsP3 wordsF
  simp
  omega
theorem fwd : ∀ (fs : List UInt8) (N : List Int) (p t : Bool) (c u : Cmd), okForm fs = true → rightL fs N p t c = true → u.name = c.name → u.nums ++ N = c.nums → (p = true → (∀ b ∈ fs, b ≠ 112) → u.pane = c.pane) → (t = true → (∀ b ∈ fs, b ≠ 116) → u.text = c.text) →
    ∃ rest more, (more = false → rest = []) ∧ (∀ s, buildF fs N c s u = some (s ++ tailOf more rest, c)) ∧ loopF fs u rest more = some c ∧ (tailOf more rest).length ≤ roomF fs
  | [], N, p, t, c, u, _, hr, hn, hN, hp, ht => by
    unfold rightL at hr
    simp at hr
    obtain ⟨⟨rfl, rfl⟩, rfl⟩ := hr
    have hu : u = c := by
      have h1 := hp rfl (by simp)
      have h2 := ht rfl (by simp)
      rw [List.append_nil] at hN
      cases u; cases c; simp_all
    subst hu
    exact ⟨[], false, fun _ => rfl, fun s => by simp [buildF, tailOf], by simp [loopF], by simp [tailOf, roomF]⟩
  | f :: fs, N, p, t, c, u, ho, hr, hn, hN, hp, ht => by
    unfold okForm at ho
    simp only [Bool.and_eq_true, Bool.or_eq_true, decide_eq_true_eq] at ho
    obtain ⟨⟨⟨ho1, ho2⟩, ho3⟩, ho4⟩ := ho
    unfold rightL at hr
    by_cases hln : f = 108 ∨ f = 110
    · rw [if_pos hln] at hr
      have h116 : ¬ f = 116 := by rcases hln with rfl | rfl <;> decide
      have h112 : ¬ f = 112 := by rcases hln with rfl | rfl <;> decide
      cases N with
      | nil => cases hr
      | cons n N =>
        dsimp only at hr
        split at hr
        · cases hr
        · rename_i hb
          have hb2 : -9999 ≤ n ∧ n ≤ 9999 := by
            by_cases h : -9999 ≤ n ∧ n ≤ 9999
            · exact h
            · exact absurd (.inr h) hb
          have hb1 : f = 108 → 0 ≤ n ∧ n ≤ 63 := fun h => by
            by_cases h' : 0 ≤ n ∧ n ≤ 63
            · exact h'
            · exact absurd (.inl ⟨h, h'⟩) hb
          obtain ⟨rest, more, e1, e2, e3, e4⟩ := fwd fs N p t c { u with nums := u.nums ++ [n] } ho1 hr hn (by rw [← hN]; simp) (fun h1 h2 => hp h1 fun b hb => by
            rcases List.mem_cons.1 hb with rfl | hb
            · exact h112
            · exact h2 b hb) (fun h1 h2 => ht h1 fun b hb => by
            rcases List.mem_cons.1 hb with rfl | hb
            · exact h116
            · exact h2 b hb)
          refine ⟨Lib.itoa n ++ tailOf more rest, true, fun h => (by cases h), fun s => ?_, ?_, ?_⟩
          · unfold buildF
            rw [if_pos hln]
            dsimp only
            rw [e2]
            simp [tailOf]
          · unfold loopF
            rw [if_pos rfl, if_neg h116, cut_tail (itoa_ne32 n) more rest e1]
            have hst : stepF f (Lib.itoa n) u = some { u with nums := u.nums ++ [n] } := by
              unfold stepF
              rcases hln with rfl | rfl
              · rw [if_pos rfl, numF_of hb2.1 hb2.2]
                dsimp only
                rw [if_pos (by have := hb1 rfl; omega)]
              · rw [if_neg (by decide), if_pos rfl, numF_of hb2.1 hb2.2]
            dsimp only
            rw [hst]
            exact e3
          · have := itoa_len5 hb2.1 hb2.2
            rw [show tailOf true (Lib.itoa n ++ tailOf more rest) = 32 :: (Lib.itoa n ++ tailOf more rest) from rfl]
            unfold roomF
            rw [if_pos hln]
            simp
            omega
    · rw [if_neg hln] at hr
      by_cases h112 : f = 112
      · subst h112
        rw [if_pos rfl] at hr
        have hno : ∀ b ∈ fs, b ≠ 112 := by
          rcases ho2 with h' | h'
          · exact absurd rfl h'
          · intro b hb
            have := List.all_eq_true.1 h' b hb
            simpa using this
        have hmay : mayP c.pane := by
          have key : ∀ (fs : List UInt8) (N : List Int) (p t : Bool), (∀ b ∈ fs, b ≠ 112) → rightL fs N p t c = true → p = true := by
            intro fs
            induction fs with
            | nil => intro N p t _ h; unfold rightL at h; simp at h; exact h.1.2
            | cons g gs ih =>
              intro N p t hg h
              unfold rightL at h
              split at h
              · split at h
                · cases h
                · split at h
                  · cases h
                  · exact ih _ p t (fun b hb => hg b (by simp [hb])) h
              · split at h
                · rename_i hh; exact absurd hh (hg g (by simp))
                · exact ih _ p _ (fun b hb => hg b (by simp [hb])) h
          exact of_decide_eq_true (key fs N _ t hno hr)
        obtain ⟨rest, more, e1, e2, e3, e4⟩ := fwd fs N _ t c { u with pane := c.pane } ho1 hr hn hN (fun _ _ => rfl) (fun h1 h2 => ht h1 fun b hb => by
          rcases List.mem_cons.1 hb with rfl | hb
          · decide
          · exact h2 b hb)
        refine ⟨wordsP3 c.pane ++ tailOf more rest, true, fun h => (by cases h), fun s => ?_, ?_, ?_⟩
        · unfold buildF
          rw [if_neg hln, if_pos rfl, if_pos hmay, e2]
          simp [tailOf]
        · unfold loopF
          rw [if_pos rfl, if_neg (by decide), cut_tail (words_ne32 hmay) more rest e1]
          have hst : stepF 112 (wordsP3 c.pane) u = some { u with pane := c.pane } := by
            unfold stepF
            rw [if_neg (by decide), if_neg (by decide), if_pos rfl, paneF_of hmay]
          dsimp only
          rw [hst]
          exact e3
        · have := words_len3 hmay
          rw [show tailOf true (wordsP3 c.pane ++ tailOf more rest) = 32 :: (wordsP3 c.pane ++ tailOf more rest) from rfl]
          unfold roomF
          rw [if_neg hln, if_pos rfl]
          simp
          omega
      · have h116 : f = 116 := by
          rcases ho4 with ((h' | h') | h') | h'
          · exact absurd (.inl h') hln
          · exact absurd (.inr h') hln
          · exact absurd h' h112
          · exact h'
        subst h116
        rw [if_neg h112] at hr
        have hfs : fs = [] := by
          rcases ho3 with h' | h'
          · exact absurd rfl h'
          · exact List.isEmpty_iff.1 h'
        subst hfs
        unfold rightL at hr
        simp at hr
        obtain ⟨⟨rfl, rfl⟩, hfine⟩ := hr
        rw [List.append_nil] at hN
        have hpp := hp rfl (by simp)
        have hu : ({ u with text := c.text } : Cmd) = c := by cases u; cases c; simp_all
        refine ⟨c.text, true, fun h => (by cases h), fun s => ?_, ?_, ?_⟩
        · unfold buildF
          rw [if_neg hln, if_neg h112]
          unfold buildF
          rw [hu]
          simp [tailOf]
        · unfold loopF
          rw [if_pos rfl, if_pos rfl, step_text', if_pos hfine]
          dsimp only
          unfold loopF
          rw [hu]
          rfl
        · unfold fineF at hfine
          simp at hfine
          unfold tailOf roomF
          rw [if_neg hln, if_neg h112]
          simp
          omega
theorem bwd : ∀ (fs : List UInt8) (N : List Int) (p t : Bool) (c u : Cmd) (rest : List UInt8) (more : Bool), okForm fs = true → loopF fs u rest more = some c → u.nums ++ N = c.nums → ((∀ b ∈ fs, b ≠ 112) → p = true) → ((∀ b ∈ fs, b ≠ 116) → t = true) → rightL fs N p t c = true
  | [], N, p, t, c, u, rest, more, _, h, hN, hp, ht => by
    unfold loopF at h
    split at h
    · cases h
    · cases h
      have : N = [] := by simpa using hN
      unfold rightL
      simp [this, hp (by simp), ht (by simp)]
  | f :: fs, N, p, t, c, u, rest, more, ho, h, hN, hp, ht => by
    have hoo := ho
    unfold okForm at ho
    simp only [Bool.and_eq_true, Bool.or_eq_true, decide_eq_true_eq] at ho
    obtain ⟨⟨⟨ho1, ho2⟩, ho3⟩, ho4⟩ := ho
    unfold rightL
    unfold loopF at h
    split at h
    · split at h
      · rename_i h116
        subst h116
        split at h
        · rename_i c1 hs
          have hfs : fs = [] := by
            rcases ho3 with h' | h'
            · exact absurd rfl h'
            · exact List.isEmpty_iff.1 h'
          subst hfs
          rw [step_text'] at hs
          split at hs
          · rename_i hf
            cases hs
            unfold loopF at h
            simp at h
            subst h
            rw [if_neg (by decide), if_neg (by decide)]
            have : N = [] := by simpa using hN
            unfold rightL
            simp [this, hf, hp (by simp)]
          · cases hs
        · cases h
      · rename_i h116
        split at h
        · rename_i c1 hs
          by_cases hln : f = 108 ∨ f = 110
          · rw [if_pos hln]
            have h112 : ¬ f = 112 := by rcases hln with rfl | rfl <;> decide
            obtain ⟨n, hn, hc1, hlab⟩ : ∃ n, numF (cutB rest).1 = some n ∧ c1 = { u with nums := u.nums ++ [n] } ∧ (f = 108 → 0 ≤ n ∧ n < 64) := by
              unfold stepF at hs
              rcases hln with rfl | rfl
              · rw [if_pos rfl] at hs
                cases hq : numF (cutB rest).1 with
                | none => rw [hq] at hs; cases hs
                | some n =>
                  rw [hq] at hs
                  dsimp only at hs
                  split at hs
                  · rename_i hb; cases hs; exact ⟨n, rfl, rfl, fun _ => hb⟩
                  · cases hs
              · rw [if_neg (by decide), if_pos rfl] at hs
                cases hq : numF (cutB rest).1 with
                | none => rw [hq] at hs; cases hs
                | some n => rw [hq] at hs; cases hs; exact ⟨n, rfl, rfl, fun h => (by cases h)⟩
            obtain ⟨_, hb⟩ := numF_itoa hn
            obtain ⟨N1, e1, _⟩ := inv fs c1 c _ _ ho1 h
            subst hc1
            have hNn : N = n :: N1 := by
              rw [e1] at hN
              simp at hN
              exact hN
            subst hNn
            dsimp only
            rw [if_neg (by
              rintro (⟨h1, h2⟩ | h2)
              · exact h2 (by have := hlab h1; omega)
              · exact h2 hb)]
            refine bwd fs N1 p t c _ _ _ ho1 h (by rw [← hN]; simp) (fun h1 => hp fun b hb => ?_) (fun h1 => ht fun b hb => ?_)
            · rcases List.mem_cons.1 hb with rfl | hb
              · exact h112
              · exact h1 b hb
            · rcases List.mem_cons.1 hb with rfl | hb
              · exact h116
              · exact h1 b hb
          · have hf : f = 112 := by
              rcases ho4 with ((h' | h') | h') | h'
              · exact absurd (.inl h') hln
              · exact absurd (.inr h') hln
              · exact h'
              · exact absurd h' h116
            subst hf
            rw [if_neg hln, if_pos rfl]
            obtain ⟨q, hq, hc1⟩ : ∃ q, paneF (cutB rest).1 = some q ∧ c1 = { u with pane := q } := by
              unfold stepF at hs
              rw [if_neg (by decide), if_neg (by decide), if_pos rfl] at hs
              cases hq : paneF (cutB rest).1 with
              | none => rw [hq] at hs; cases hs
              | some q => rw [hq] at hs; cases hs; exact ⟨q, rfl, rfl⟩
            obtain ⟨hmay, _⟩ := paneF_words hq
            have hno : ∀ b ∈ fs, b ≠ 112 := by
              rcases ho2 with h' | h'
              · exact absurd rfl h'
              · intro b hb
                have := List.all_eq_true.1 h' b hb
                simpa using this
            obtain ⟨N1, e1, _, e3, _⟩ := inv fs c1 c _ _ ho1 h
            subst hc1
            have hcp : c.pane = q := e3 hno
            refine bwd fs N _ t c _ _ _ ho1 h hN (fun _ => by rw [hcp]; exact decide_eq_true hmay) (fun h1 => ht fun b hb => ?_)
            rcases List.mem_cons.1 hb with rfl | hb
            · decide
            · exact h1 b hb
        · cases h
    · cases h
theorem room_form {s form : List UInt8} (h : formOf s = some form) : s.length + roomF form ≤ 256 := by
  have key : ∀ tb : Table, (tb.all fun p => decide (p.1.length + roomF p.2 ≤ 256)) = true → lookP s tb = some form → s.length + roomF form ≤ 256 := by
    intro tb
    induction tb with
    | nil => intro _ h; cases h
    | cons p tb ih =>
      intro ha h
      rw [List.all_cons, Bool.and_eq_true] at ha
      unfold lookP at h
      split at h
      · rename_i e; cases h; rw [← e]; exact of_decide_eq_true ha.1
      · exact ih ha.2 h
  exact key Fns.table (by decide +kernel) h
theorem form_ne32 {s form : List UInt8} (h : formOf s = some form) : ∀ b ∈ s, b ≠ 32 := by
  have key : ∀ tb : Table, (tb.all fun p => p.1.all fun b => !decide (b = 32)) = true → lookP s tb = some form → s.all (fun b => !decide (b = 32)) = true := by
    intro tb
    induction tb with
    | nil => intro _ h; cases h
    | cons p tb ih =>
      intro ha h
      rw [List.all_cons, Bool.and_eq_true] at ha
      unfold lookP at h
      split at h
      · rename_i e; cases h; rw [← e]; exact ha.1
      · exact ih ha.2 h
  have h2 := key Fns.table (by decide +kernel) h
  intro b hb
  have := List.all_eq_true.1 h2 b hb
  simpa using this
/-- A command may be exactly if it has a line. -/
theorem right_line (c : Cmd) (h : rightF c = true) : ∃ s, lineOk c s := by
  unfold rightF at h
  cases hf : formOf c.name with
  | none => rw [hf] at h; cases h
  | some form =>
    rw [hf] at h
    dsimp only at h
    obtain ⟨rest, more, e1, e2, e3, e4⟩ := fwd form c.nums _ _ c (named c.name) (form_ok hf) h rfl (by simp [named]) (fun h1 _ => (of_decide_eq_true h1).symm) (fun h1 _ => (of_decide_eq_true h1).symm)
    refine ⟨c.name ++ tailOf more rest, form, hf, e2 _, ?_⟩
    have hroom := room_form hf
    unfold parseF
    rw [if_neg (by rw [List.length_append]; omega), cut_tail (form_ne32 hf) more rest e1]
    dsimp only
    rw [hf]
    dsimp only
    rw [e3]
theorem line_right (c : Cmd) (s : List UInt8) (h : lineOk c s) : rightF c = true := by
  obtain ⟨form, hf, _, hp⟩ := h
  unfold parseF at hp
  split at hp
  · cases hp
  · cases hf2 : formOf (cutB s).1 with
    | none => rw [hf2] at hp; cases hp
    | some form2 =>
      rw [hf2] at hp
      dsimp only at hp
      cases hl : loopF form2 (named (cutB s).1) (cutB s).2.1 (cutB s).2.2 with
      | none => rw [hl] at hp; cases hp
      | some d =>
        rw [hl] at hp
        cases hp
        obtain ⟨N, e1, e2, e3, _⟩ := inv _ _ _ _ _ (form_ok hf2) hl
        have hnm : c.name = (cutB s).1 := e2
        rw [hnm, hf2] at hf
        cases hf
        unfold rightF
        rw [hnm, hf2]
        dsimp only
        refine bwd _ _ _ _ _ _ _ _ (form_ok hf2) hl (by simp [named]) (fun h1 => ?_) (fun h1 => ?_)
        · have := e3 h1
          rw [this]
          rfl
        · have ht : ∀ (fs : List UInt8) (c d : Cmd) (rest : List UInt8) (more : Bool), (∀ b ∈ fs, b ≠ 116) → okForm fs = true → loopF fs c rest more = some d → d.text = c.text := by
            intro fs
            induction fs with
            | nil =>
              intro c d rest more _ _ h
              unfold loopF at h
              split at h
              · cases h
              · cases h; rfl
            | cons f fs ih =>
              intro c d rest more hno ho h
              have hf116 : ¬ f = 116 := hno f (by simp)
              unfold okForm at ho
              simp only [Bool.and_eq_true, Bool.or_eq_true, decide_eq_true_eq] at ho
              unfold loopF at h
              split at h
              · try rw [if_neg hf116] at h
                split at h
                · rename_i c1 hs
                  have h9 := ih c1 d _ _ (fun b hb => hno b (by simp [hb])) ho.1.1.1 h
                  unfold stepF at hs
                  split at hs
                  · split at hs
                    · split at hs
                      · cases hs; exact h9
                      · cases hs
                    · cases hs
                  · split at hs
                    · split at hs
                      · cases hs; exact h9
                      · cases hs
                    · split at hs
                      · split at hs
                        · cases hs; exact h9
                        · cases hs
                      · rename_i g1 g2 g3
                        rcases ho.2 with ((h' | h') | h') | h'
                        · exact absurd h' g1
                        · exact absurd h' g2
                        · exact absurd h' g3
                        · exact absurd h' hf116
                · cases h
              · cases h
          have := ht _ _ _ _ _ h1 (form_ok hf2) hl
          rw [this]
          rfl
end Go.Proofs.YthcpfmibcoeleaaDoor.Cm
