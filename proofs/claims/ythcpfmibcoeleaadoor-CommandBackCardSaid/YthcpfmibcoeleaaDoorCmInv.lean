/- A line is its command's line: no program. -/
import Derived.Test.YthcpfmibcoeleaaDoorCmRSame
namespace Go.Proofs.YthcpfmibcoeleaaDoor.Cm
open Go Go.RowKit Am Go.Proofs.YthcpfmibcoeleaaDoor.Id
set_option linter.unusedSimpArgs false
set_option linter.unusedVariables false
def mayP (p : Int × Int × Int) : Prop := mayI p.1 ∧ mayI p.2.1 ∧ mayI p.2.2
instance (p : Int × Int × Int) : Decidable (mayP p) := by unfold mayP; exact inferInstance
def wordsP3 (p : Int × Int × Int) : List UInt8 := wordsF p.1 p.2.1 p.2.2
/-- A command's line, letter by letter, and what of it was used. -/
def buildF : List UInt8 → List Int → Cmd → List UInt8 → Cmd → Option (List UInt8 × Cmd)
  | [], _, _, s, u => some (s, u)
  | f :: fs, N, c, s, u => if f = 108 ∨ f = 110 then (match N with
      | [] => none
      | n :: N' => buildF fs N' c (s ++ 32 :: Lib.itoa n) { u with nums := u.nums ++ [n] })
    else if f = 112 then (if mayP c.pane then buildF fs N c (s ++ 32 :: wordsP3 c.pane) { u with pane := c.pane } else none)
    else buildF fs N c (s ++ 32 :: c.text) { u with text := c.text }
theorem same_eq {c d : Cmd} (h : sameF c d = true) : c = d := by
  unfold sameF at h
  simp at h
  obtain ⟨⟨⟨h1, h2⟩, h3⟩, h4⟩ := h
  cases c; cases d
  simp_all
def lineOk (c : Cmd) (s : List UInt8) : Prop := ∃ form, formOf c.name = some form ∧ buildF form c.nums c c.name (named c.name) = some (s, c) ∧ parseF s = .ok c
theorem line_one {c : Cmd} {s t : List UInt8} (h : lineOk c s) (k : lineOk c t) : s = t := by
  obtain ⟨f, h1, h2, _⟩ := h
  obtain ⟨g, k1, k2, _⟩ := k
  rw [h1] at k1
  cases k1
  rw [h2] at k2
  cases k2
  rfl
def LineP (c : Cmd) (v : AV) : Prop := (∃ s, lineOk c s ∧ v = .tuple [.str s, .bool true]) ∨ ((∀ s, ¬ lineOk c s) ∧ v = .tuple [.str [], .bool false])
def okForm : List UInt8 → Bool
  | [] => true
  | f :: fs => okForm fs && (decide (f ≠ 112) || fs.all fun b => decide (b ≠ 112)) && (decide (f ≠ 116) || fs.isEmpty) && (decide (f = 108) || decide (f = 110) || decide (f = 112) || decide (f = 116))
theorem form_ok {s form : List UInt8} (h : formOf s = some form) : okForm form = true := by
  have key : ∀ tb : Table, (tb.all fun p => okForm p.2) = true → lookP s tb = some form → okForm form = true := by
    intro tb
    induction tb with
    | nil => intro _ h; cases h
    | cons p tb ih =>
      intro ha h
      rw [List.all_cons, Bool.and_eq_true] at ha
      unfold lookP at h
      split at h
      · cases h; exact ha.1
      · exact ih ha.2 h
  exact key Fns.table (by decide +kernel) h
def tailOf (more : Bool) (rest : List UInt8) : List UInt8 := if more then 32 :: rest else []
theorem cut_join (s : List UInt8) : s = (cutB s).1 ++ tailOf (cutB s).2.2 (cutB s).2.1 := by
  rcases blank_cases s with h | ⟨x, r, rfl, h⟩
  · rw [cutB_miss h]; simp [tailOf]
  · rw [cutB_hit h]; simp [tailOf]
theorem numF_itoa {w : List UInt8} {n : Int} (h : numF w = some n) : Lib.itoa n = w ∧ -9999 ≤ n ∧ n ≤ 9999 := by
  unfold numF at h
  split at h
  · split at h
    · rename_i hc; cases h; exact hc
    · cases h
  · cases h
theorem paneF_words {w : List UInt8} {p : Int × Int × Int} (h : paneF w = some p) : mayP p ∧ wordsP3 p = w := by
  unfold paneF at h
  cases hF : refF w with
  | none => rw [hF] at h; cases h
  | some x =>
    obtain ⟨a, b, c⟩ := x
    rw [hF] at h
    cases h
    obtain ⟨h1, h2, h3, h4⟩ := refF_some hF
    exact ⟨⟨⟨by show (0 : Int) ≤ (a : Int); omega, by show (a : Int) ≤ 2147483647; omega⟩, ⟨by show (0 : Int) ≤ (b : Int); omega, by show (b : Int) ≤ 2147483647; omega⟩, ⟨by show (0 : Int) ≤ (c : Int); omega, by show (c : Int) ≤ 2147483647; omega⟩⟩, h4.symm⟩
theorem step_text' (w : List UInt8) (c : Cmd) : stepF 116 w c = if fineF w then some { c with text := w } else none := by
  unfold stepF
  rw [if_neg (by decide), if_neg (by decide), if_neg (by decide)]
theorem inv : ∀ (fs : List UInt8) (c d : Cmd) (rest : List UInt8) (more : Bool), okForm fs = true → loopF fs c rest more = some d →
    ∃ N, d.nums = c.nums ++ N ∧ d.name = c.name ∧ ((∀ b ∈ fs, b ≠ 112) → d.pane = c.pane) ∧ (∀ n ∈ N, -9999 ≤ n ∧ n ≤ 9999) ∧ ∀ s, buildF fs N d s c = some (s ++ tailOf more rest, d)
  | [], c, d, rest, more, _, h => by
    unfold loopF at h
    split at h
    · cases h
    · rename_i hm
      cases h
      have : more = false := by cases more <;> simp_all
      exact ⟨[], by simp, rfl, fun _ => rfl, by simp, fun s => by simp [buildF, tailOf, this]⟩
  | f :: fs, c, d, rest, more, ho, h => by
    unfold okForm at ho
    simp only [Bool.and_eq_true, Bool.or_eq_true, decide_eq_true_eq] at ho
    obtain ⟨⟨⟨ho1, ho2⟩, ho3⟩, ho4⟩ := ho
    unfold loopF at h
    split at h
    · rename_i hm
      have hmore : more = true := hm
      subst hmore
      split at h
      · rename_i h116
        have hfs : fs = [] := by
          rcases ho3 with h' | h'
          · exact absurd h116 h'
          · exact List.isEmpty_iff.1 h'
        subst hfs h116
        split at h
        · rename_i c1 hs
          unfold loopF at h
          simp at h
          subst h
          rw [step_text'] at hs
          split at hs
          · cases hs
            exact ⟨[], by simp, rfl, fun _ => rfl, by simp, fun s => by simp [buildF, tailOf]⟩
          · cases hs
        · cases h
      · rename_i h116
        split at h
        · rename_i c1 hs
          obtain ⟨N, e1, e2, e3, e4, e5⟩ := inv fs c1 d _ _ ho1 h
          have hj := cut_join rest
          by_cases hln : f = 108 ∨ f = 110
          · obtain ⟨n, hn, hc1⟩ : ∃ n, numF (cutB rest).1 = some n ∧ c1 = { c with nums := c.nums ++ [n] } := by
              unfold stepF at hs
              rcases hln with rfl | rfl
              · rw [if_pos rfl] at hs
                cases hq : numF (cutB rest).1 with
                | none => rw [hq] at hs; cases hs
                | some n =>
                  rw [hq] at hs
                  dsimp only at hs
                  split at hs
                  · cases hs; exact ⟨n, rfl, rfl⟩
                  · cases hs
              · rw [if_neg (by decide), if_pos rfl] at hs
                cases hq : numF (cutB rest).1 with
                | none => rw [hq] at hs; cases hs
                | some n => rw [hq] at hs; cases hs; exact ⟨n, rfl, rfl⟩
            obtain ⟨hw, hb⟩ := numF_itoa hn
            subst hc1
            refine ⟨n :: N, by rw [e1]; simp, e2, fun hall => e3 fun b hb => hall b (by simp [hb]), fun m hm => ?_, fun s => ?_⟩
            · rcases List.mem_cons.1 hm with rfl | hm
              · exact hb
              · exact e4 m hm
            · unfold buildF
              rw [if_pos hln]
              dsimp only
              rw [e5]
              congr 2
              rw [hw]
              unfold tailOf at hj ⊢
              rw [if_pos rfl]
              conv => rhs; rw [hj]
              simp
          · have hf : f = 112 := by
              rcases ho4 with ((h' | h') | h') | h'
              · exact absurd (.inl h') hln
              · exact absurd (.inr h') hln
              · exact h'
              · exact absurd h' h116
            subst hf
            obtain ⟨p, hp, hc1⟩ : ∃ p, paneF (cutB rest).1 = some p ∧ c1 = { c with pane := p } := by
              unfold stepF at hs
              rw [if_neg (by decide), if_neg (by decide), if_pos rfl] at hs
              cases hq : paneF (cutB rest).1 with
              | none => rw [hq] at hs; cases hs
              | some p => rw [hq] at hs; cases hs; exact ⟨p, rfl, rfl⟩
            obtain ⟨hmay, hw⟩ := paneF_words hp
            subst hc1
            have hno : ∀ b ∈ fs, b ≠ 112 := by
              rcases ho2 with h' | h'
              · exact absurd rfl h'
              · intro b hb
                have := List.all_eq_true.1 h' b hb
                simpa using this
            have hdp : d.pane = p := e3 hno
            refine ⟨N, e1, e2, fun hall => absurd rfl (hall 112 (by simp)), e4, fun s => ?_⟩
            unfold buildF
            rw [if_neg hln, if_pos rfl, hdp, if_pos hmay, e5]
            congr 2
            rw [hw]
            unfold tailOf at hj ⊢
            rw [if_pos rfl]
            conv => rhs; rw [hj]
            simp
        · cases h
    · cases h
theorem parse_line {line : List UInt8} {d : Cmd} (h : parseF line = .ok d) : lineOk d line ∧ d.name.length ≤ 256 ∧ (∀ n ∈ d.nums, -9999 ≤ n ∧ n ≤ 9999) ∧ line.length ≤ 256 := by
  have hp := h
  unfold parseF at h
  split at h
  · cases h
  · rename_i hlong
    cases hf : formOf (cutB line).1 with
    | none => rw [hf] at h; cases h
    | some form =>
      rw [hf] at h
      dsimp only at h
      cases hl : loopF form (named (cutB line).1) (cutB line).2.1 (cutB line).2.2 with
      | none => rw [hl] at h; cases h
      | some d' =>
        rw [hl] at h
        cases h
        obtain ⟨N, e1, e2, e3, e4, e5⟩ := inv _ _ _ _ _ (form_ok hf) hl
        have hN : d.nums = N := by rw [e1]; rfl
        have hnm : d.name = (cutB line).1 := e2
        refine ⟨⟨form, by rw [hnm]; exact hf, ?_, hp⟩, by rw [hnm]; have := (cutB_len line).1; omega, by rw [hN]; exact e4, by omega⟩
        rw [hN, hnm, e5, ← cut_join]
end Go.Proofs.YthcpfmibcoeleaaDoor.Cm
