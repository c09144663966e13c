/- A line's command, or what is wrong: the plain law, without the program. -/
import Derived.Test.YthcpfmibcoeleaaDoorIdText
import Derived.Test.YthcpfmibcoeleaaDoorForms
import Derived.Lib.IndexMore
namespace Go.Proofs.YthcpfmibcoeleaaDoor.Cm
open Go Go.RowKit Am Go.Proofs.YthcpfmibcoeleaaDoor.Id
set_option linter.unusedSimpArgs false
set_option linter.unusedVariables false
structure Cmd where
  name : List UInt8
  nums : List Int
  pane : Int × Int × Int
  text : List UInt8
def named (s : List UInt8) : Cmd := ⟨s, [], (0, 0, 0), []⟩
/-- What stands ahead of the first blank, what stands behind it, and whether there is one. -/
def cutB : List UInt8 → List UInt8 × List UInt8 × Bool
  | [] => ([], [], false)
  | c :: r => if c = 32 then ([], r, true) else (c :: (cutB r).1, (cutB r).2.1, (cutB r).2.2)
theorem cutB_miss : ∀ {s : List UInt8}, (∀ b ∈ s, b ≠ 32) → cutB s = (s, [], false)
  | [], _ => rfl
  | c :: r, h => by
    have h0 : ¬ c = 32 := h c (by simp)
    have ih := cutB_miss (s := r) fun b hb => h b (by simp [hb])
    simp [cutB, h0, ih]
theorem cutB_hit : ∀ {s : List UInt8}, (∀ b ∈ s, b ≠ 32) → ∀ r, cutB (s ++ 32 :: r) = (s, r, true)
  | [], _, r => by simp [cutB]
  | c :: t, h, r => by
    have h0 : ¬ c = 32 := h c (by simp)
    have ih := cutB_hit (s := t) (fun b hb => h b (by simp [hb])) r
    simp [cutB, h0, ih]
theorem index_miss : ∀ {s : List UInt8}, (∀ b ∈ s, b ≠ 32) → Lib.index s [32] = -1
  | [], _ => rfl
  | c :: r, h => by
    have h0 : ¬ 32 = c := fun e => h c (by simp) e.symm
    have ih := index_miss (s := r) fun b hb => h b (by simp [hb])
    have hp : List.isPrefixOf [32] (c :: r) = false := by simp [List.isPrefixOf, h0]
    rw [Lib.index, hp, ih]
    rfl
theorem blank_cases : ∀ s : List UInt8, (∀ b ∈ s, b ≠ 32) ∨ ∃ x r, s = x ++ 32 :: r ∧ ∀ b ∈ x, b ≠ 32
  | [] => .inl fun b hb => by cases hb
  | c :: r => by
    by_cases hc : c = 32
    · exact .inr ⟨[], r, by rw [hc]; rfl, fun b hb => by cases hb⟩
    · rcases blank_cases r with h | ⟨x, r', h1, h2⟩
      · exact .inl fun b hb => by
          rcases List.mem_cons.1 hb with rfl | hb
          · exact hc
          · exact h b hb
      · exact .inr ⟨c :: x, r', by rw [h1]; rfl, fun b hb => by
          rcases List.mem_cons.1 hb with rfl | hb
          · exact hc
          · exact h2 b hb⟩
theorem cut_eq (s : List UInt8) : Lib.cut s [32] = cutB s := by
  rcases blank_cases s with h | ⟨x, r, rfl, h⟩
  · rw [cutB_miss h]
    unfold Lib.cut
    rw [index_miss h]
    rfl
  · rw [cutB_hit h]
    unfold Lib.cut
    rw [index_at h, if_pos (by omega)]
    have hd : (x ++ 32 :: r).drop (x.length + 1) = r := by
      rw [show x.length + 1 = (x ++ [32]).length by simp, show x ++ 32 :: r = (x ++ [32]) ++ r by simp, List.drop_left]
    simp [hd]
theorem cutB_len : ∀ s : List UInt8, (cutB s).1.length ≤ s.length ∧ (cutB s).2.1.length ≤ s.length
  | [] => ⟨by simp [cutB], by simp [cutB]⟩
  | c :: r => by
    have ih := cutB_len r
    by_cases hc : c = 32
    · simp [cutB, hc]
    · simp [cutB, hc]
      omega
/-- A word's number. -/
def numF (w : List UInt8) : Option Int := match Lib.atoiAll w with
  | .ok n => if Lib.itoa n = w ∧ -9999 ≤ n ∧ n ≤ 9999 then some n else none
  | _ => none
def paneF (w : List UInt8) : Option (Int × Int × Int) := (refF w).map fun x => ((x.1 : Int), (x.2.1 : Int), (x.2.2 : Int))
def fineB (b : UInt8) : Bool := decide (32 ≤ b.toNat) && decide (b.toNat ≤ 126)
def allB (s : List UInt8) : Bool := s.all fineB
def fineF (s : List UInt8) : Bool := decide (1 ≤ s.length) && decide (s.length ≤ 200) && allB s
def stepF (f : UInt8) (w : List UInt8) (c : Cmd) : Option Cmd :=
  if f = 108 then (match numF w with
    | some n => if 0 ≤ n ∧ n < 64 then some { c with nums := c.nums ++ [n] } else none
    | none => none)
  else if f = 110 then (match numF w with
    | some n => some { c with nums := c.nums ++ [n] }
    | none => none)
  else if f = 112 then (match paneF w with
    | some p => some { c with pane := p }
    | none => none)
  else if fineF w then some { c with text := w } else none
def loopF : List UInt8 → Cmd → List UInt8 → Bool → Option Cmd
  | [], c, _, more => if more then none else some c
  | f :: fs, c, rest, more => if more then
      (if f = 116 then (match stepF f rest c with
        | some d => loopF fs d rest false
        | none => none)
      else (match stepF f (cutB rest).1 c with
        | some d => loopF fs d (cutB rest).2.1 (cutB rest).2.2
        | none => none))
    else none
def formOf (s : List UInt8) : Option (List UInt8) := lookP s Fns.table
inductive Res where
  | long
  | none
  | form
  | ok (c : Cmd)
def parseF (line : List UInt8) : Res := if 256 < line.length then .long else match formOf (cutB line).1 with
  | none => .none
  | some form => match loopF form (named (cutB line).1) (cutB line).2.1 (cutB line).2.2 with
    | none => .form
    | some c => .ok c
/-- The order in which it is told. -/
theorem order_bare {name : List UInt8} (h : ∀ b ∈ name, b ≠ 32) (hl : name.length ≤ 40) : parseF name = match formOf name with
    | none => .none
    | some [] => .ok (named name)
    | some _ => .form := by
  unfold parseF
  rw [if_neg (by omega), cutB_miss h]
  dsimp only
  cases formOf name with
  | none => rfl
  | some form => cases form <;> simp [loopF]
theorem order_more {name rest : List UInt8} (h : ∀ b ∈ name, b ≠ 32) (hl : ¬ 256 < (name ++ 32 :: rest).length) : (formOf name = none → parseF (name ++ 32 :: rest) = .none) ∧ (formOf name = some [] → parseF (name ++ 32 :: rest) = .form) ∧
    (∀ f fs, formOf name = some (f :: fs) → parseF (name ++ 32 :: rest) = .form ∨ ∃ c, parseF (name ++ 32 :: rest) = .ok c) := by
  have e : parseF (name ++ 32 :: rest) = match formOf name with
      | none => .none
      | some form => match loopF form (named name) rest true with
        | none => .form
        | some c => .ok c := by unfold parseF; rw [if_neg hl, cutB_hit h]
  rw [e]
  refine ⟨fun h => by rw [h], fun h => by rw [h]; rfl, fun f fs h => ?_⟩
  rw [h]
  dsimp only
  cases loopF (f :: fs) (named name) rest true with
  | none => exact .inl rfl
  | some c => exact .inr ⟨c, rfl⟩
end Go.Proofs.YthcpfmibcoeleaaDoor.Cm
namespace Go.Proofs.YthcpfmibcoeleaaDoor.Cm
open Go Go.RowKit Am Go.Proofs.YthcpfmibcoeleaaDoor.Id
set_option linter.unusedSimpArgs false
set_option linter.unusedVariables false
def numR (s : List UInt8) : Option Int := match s with
  | [] => none
  | c :: r => if c = 45 then (if r = [] ∨ 10 < r.length ∨ r.head? = some 48 ∨ r.all isD = false then none else some (-(valL r : Int)))
    else (if 10 < (c :: r).length ∨ (c = 48 ∧ r ≠ []) ∨ (c :: r).all isD = false then none else some (valL (c :: r) : Int))
theorem val_dec : ∀ (k n : Nat), n ≤ k → valL (Lib.decDigits n) = n
  | 0, n, h => by
    obtain rfl : n = 0 := by omega
    rw [dec_small (by omega)]
    rfl
  | k + 1, n, h => by
    by_cases hs : n < 10
    · rw [dec_small hs]
      show 10 * 0 + ((UInt8.ofNat (48 + n)).toNat - 48) = n
      rw [ofNat_toNat (by omega)]
      omega
    · rw [dec_big hs, val_snoc, val_dec k (n / 10) (by omega), ofNat_toNat (by omega)]
      omega
theorem dec_all (n : Nat) : (Lib.decDigits n).all isD = true := by
  rw [List.all_eq_true]
  intro x hx
  have := dec_digit n x hx
  unfold isD
  simp [this]
theorem dec_len2 : ∀ (k u : Nat), u < 10 ^ (k + 1) → (Lib.decDigits u).length ≤ k + 1
  | 0, u, h => by rw [dec_small (by simpa using h)]; simp
  | k + 1, u, h => by
    by_cases hs : u < 10
    · rw [dec_small hs]; simp
    · rw [dec_big hs, List.length_append, List.length_singleton]
      have := dec_len2 k (u / 10) (by rw [Nat.pow_succ] at h; omega)
      omega
theorem itoa_neg {n : Int} (h : n < 0) : Lib.itoa n = 45 :: Lib.decDigits n.natAbs := by unfold Lib.itoa; rw [if_pos h]
theorem dec_cons (n : Nat) : ∃ c r, Lib.decDigits n = c :: r ∧ 48 ≤ c.toNat ∧ c.toNat ≤ 57 := by
  have hd := dec_digit n
  have hne := dec_ne n
  generalize Lib.decDigits n = l at *
  cases l with
  | nil => exact absurd rfl hne
  | cons c r => exact ⟨c, r, rfl, hd c (by simp)⟩
theorem ne45 {c : UInt8} (h : 48 ≤ c.toNat) : ¬ c = 45 := fun e => by rw [e] at h; exact absurd h (by decide)
theorem numR_itoa {n : Int} (h1 : -9999999999 ≤ n) (h2 : n ≤ 9999999999) : numR (Lib.itoa n) = some n := by
  by_cases hn : n < 0
  · rw [itoa_neg hn]
    have hl := dec_len2 9 n.natAbs (by omega)
    have hh := dec_head n.natAbs (by omega)
    have ha := dec_all n.natAbs
    have hv := val_dec n.natAbs n.natAbs (Nat.le_refl _)
    have hne := dec_ne n.natAbs
    unfold numR
    dsimp only
    rw [if_pos rfl, if_neg (by
      rintro (h | h | h | h)
      · exact hne h
      · omega
      · exact hh h
      · rw [ha] at h; cases h), hv]
    congr 1
    omega
  · rw [itoa_pos (by omega)]
    have hl := dec_len2 9 n.toNat (by omega)
    have ha := dec_all n.toNat
    have hv := val_dec n.toNat n.toNat (Nat.le_refl _)
    obtain ⟨c, r, e, hc1, hc2⟩ := dec_cons n.toNat
    have hh := dec_head n.toNat
    rw [e] at hl ha hv hh ⊢
    unfold numR
    dsimp only
    rw [if_neg (ne45 hc1), if_neg (by
      rintro (h | ⟨h, h'⟩ | h)
      · omega
      · by_cases h0 : 1 ≤ n.toNat
        · exact hh h0 (by rw [h]; rfl)
        · have hz : n.toNat = 0 := by omega
          rw [hz, dec_small (by omega)] at e
          simp only [List.cons.injEq] at e
          exact h' e.2.symm
      · rw [ha] at h; cases h), hv]
    congr 1
    omega
theorem val_small : ∀ (k : Nat) (l : List UInt8), l.length ≤ k → l.all isD = true → valL l < 10 ^ k
  | 0, l, hk, _ => by
    rw [List.length_eq_zero_iff.1 (by omega : l.length = 0)]
    decide
  | k + 1, l, hk, ha => by
    by_cases hl : l = []
    · rw [hl]; exact Nat.lt_of_lt_of_le (by decide : valL [] < 1) (Nat.one_le_pow _ _ (by omega))
    · obtain ⟨l', d, rfl⟩ := snoc_of hl
      rw [List.all_append, Bool.and_eq_true] at ha
      have ih := val_small k l' (by simpa using hk) ha.1
      have hd := ha.2
      simp [isD] at hd
      rw [val_snoc, Nat.pow_succ]
      omega
theorem itoa_numR {s : List UInt8} {n : Int} (h : numR s = some n) : Lib.itoa n = s ∧ -9999999999 ≤ n ∧ n ≤ 9999999999 := by
  unfold numR at h
  split at h
  · cases h
  · rename_i c r
    split at h
    · rename_i hc
      split at h
      · cases h
      · rename_i hn
        cases h
        have hn' : r ≠ [] ∧ r.length ≤ 10 ∧ r.head? ≠ some 48 ∧ r.all isD = true := by
          refine ⟨fun e => hn (.inl e), by have := fun e => hn (.inr (.inl e)); omega, fun e => hn (.inr (.inr (.inl e))), ?_⟩
          cases ha : r.all isD with
          | true => rfl
          | false => exact absurd (.inr (.inr (.inr ha))) hn
        obtain ⟨g1, g2, g3, g4⟩ := hn'
        have hp := val_pos r.length r rfl g1 (List.all_eq_true.1 g4) g3
        have hs := val_small 10 r g2 g4
        have hd := dec_of_digits r.length r rfl g1 (List.all_eq_true.1 g4) (fun _ => g3)
        refine ⟨?_, by omega, by omega⟩
        rw [itoa_neg (by omega), show (-(valL r : Int)).natAbs = valL r by omega, hd, hc]
    · rename_i hc
      split at h
      · cases h
      · rename_i hn
        cases h
        have g2 : (c :: r).length ≤ 10 := by have := fun e => hn (.inl e); omega
        have g4 : (c :: r).all isD = true := by
          cases ha : (c :: r).all isD with
          | true => rfl
          | false => exact absurd (.inr (.inr ha)) hn
        have hs := val_small 10 (c :: r) g2 g4
        have hd := dec_of_digits (c :: r).length (c :: r) rfl (by simp) (List.all_eq_true.1 g4) (fun h2 e => hn (.inr (.inl ⟨by simpa using e, by rintro rfl; simp at h2⟩)))
        refine ⟨?_, by omega, by omega⟩
        rw [itoa_pos (by omega), Int.toNat_natCast, hd]
theorem atoi_itoa2 {n : Int} (h1 : -9999999999 ≤ n) (h2 : n ≤ 9999999999) : Lib.atoiAll (Lib.itoa n) = .ok n := by
  by_cases hn : n < 0
  · rw [itoa_neg hn]
    have hp := parse_dec n.natAbs (by omega)
    have hne := dec_ne n.natAbs
    unfold Lib.atoiAll
    simp only
    rw [if_pos (.inr rfl)]
    unfold Lib.parseMag
    rw [if_neg hne, hp]
    simp only
    rw [if_neg (by rintro ⟨h, _⟩; exact h rfl), if_neg (by omega), if_pos (show UInt8.toNat 45 = 45 from rfl)]
    congr 1
    omega
  · obtain ⟨c, r, e, hc1, hc2⟩ := dec_cons n.toNat
    have hp := parse_dec n.toNat (by omega)
    rw [itoa_pos (by omega)]
    rw [e] at hp ⊢
    unfold Lib.atoiAll
    simp only
    rw [if_neg (by omega)]
    unfold Lib.parseMag
    rw [if_neg (by simp), hp]
    simp only
    rw [if_neg (by omega), if_neg (by omega), if_neg (by omega)]
    congr 1
    omega
theorem numF_iff (s : List UInt8) (n : Int) : numF s = some n ↔ numR s = some n ∧ -9999 ≤ n ∧ n ≤ 9999 := by
  constructor
  · intro h
    unfold numF at h
    split at h
    · split at h
      · rename_i m hm hc
        cases h
        refine ⟨?_, hc.2.1, hc.2.2⟩
        have := numR_itoa (n := n) (by omega) (by omega)
        rw [hc.1] at this
        exact this
      · cases h
    · cases h
  · rintro ⟨h, h1, h2⟩
    obtain ⟨e, _, _⟩ := itoa_numR h
    have ha := atoi_itoa2 (n := n) (by omega) (by omega)
    rw [e] at ha
    unfold numF
    rw [ha]
    dsimp only
    rw [if_pos ⟨e, h1, h2⟩]
end Go.Proofs.YthcpfmibcoeleaaDoor.Cm
namespace Go.Proofs.YthcpfmibcoeleaaDoor.Cm
open Go Go.RowKit Am Go.Proofs.YthcpfmibcoeleaaDoor.Id
set_option linter.unusedSimpArgs false
set_option linter.unusedVariables false
/-- Words between blanks, of at most so many cuts. -/
def wW : Nat → List UInt8 → List (List UInt8)
  | 0, s => [s]
  | k + 1, s => if (cutB s).2.2 then (cutB s).1 :: wW k (cutB s).2.1 else [s]
theorem wW_none {k : Nat} {s : List UInt8} (h : ∀ b ∈ s, b ≠ 32) : wW k s = [s] := by
  cases k with
  | zero => rfl
  | succ k => unfold wW; rw [cutB_miss h]; rfl
theorem wW_hit {k : Nat} {x r : List UInt8} (h : ∀ b ∈ x, b ≠ 32) : wW (k + 1) (x ++ 32 :: r) = x :: wW k r := by rw [wW, cutB_hit h]; rfl
theorem wW_head : ∀ (k : Nat) (s : List UInt8), (wW (k + 1) s).head? = some (cutB s).1
  | k, s => by
    rcases blank_cases s with h | ⟨x, r, rfl, h⟩
    · rw [wW_none h, cutB_miss h]; rfl
    · rw [wW_hit h, cutB_hit h]; rfl
theorem wW_ne : ∀ (k : Nat) (s : List UInt8), wW k s ≠ []
  | 0, s => by unfold wW; simp
  | k + 1, s => by unfold wW; split <;> simp
def stepsF : List UInt8 → List (List UInt8) → Cmd → Option Cmd
  | [], [], c => some c
  | f :: fs, w :: ws, c => match stepF f w c with
    | some d => stepsF fs ws d
    | none => none
  | _, _, _ => none
/-- Without a text at the end. -/
theorem loop_plain : ∀ (form : List UInt8) (c : Cmd) (rest : List UInt8) (k : Nat), (∀ b ∈ form, b ≠ 116) → rest.length ≤ k →
    loopF form c rest true = match form with
      | [] => none
      | _ => stepsF form (wW k rest) c
  | [], c, rest, k, _, _ => rfl
  | f :: fs, c, rest, k, hf, hk => by
    have h116 : ¬ f = 116 := hf f (by simp)
    have hfs : ∀ b ∈ fs, b ≠ 116 := fun b hb => hf b (by simp [hb])
    dsimp only
    unfold loopF
    rw [if_pos rfl, if_neg h116]
    rcases blank_cases rest with h | ⟨x, r, rfl, h⟩
    · rw [wW_none h, cutB_miss h]
      dsimp only
      unfold stepsF
      cases stepF f rest c with
      | none => rfl
      | some d =>
        dsimp only
        cases fs with
        | nil => rfl
        | cons g gs => rfl
    · obtain ⟨k', rfl⟩ : ∃ k', k = k' + 1 := ⟨k - 1, by simp at hk; omega⟩
      rw [wW_hit h, cutB_hit h]
      dsimp only
      unfold stepsF
      cases stepF f x c with
      | none => rfl
      | some d =>
        dsimp only
        rw [loop_plain fs d r k' hfs (by simp at hk; omega)]
        cases fs with
        | nil =>
          cases hw : wW k' r with
          | nil => exact absurd hw (wW_ne k' r)
          | cons y ys => rfl
        | cons g gs => rfl
/-- With a text at the end. -/
theorem loop_text : ∀ (form : List UInt8) (c : Cmd) (rest : List UInt8), (∀ b ∈ form, b ≠ 116) →
    loopF (form ++ [116]) c rest true = stepsF (form ++ [116]) (wW form.length rest) c
  | [], c, rest, _ => by
    show loopF [116] c rest true = stepsF [116] [rest] c
    unfold loopF stepsF
    rw [if_pos rfl, if_pos rfl]
    cases stepF 116 rest c with
    | none => rfl
    | some d => rfl
  | f :: fs, c, rest, hf => by
    have h116 : ¬ f = 116 := hf f (by simp)
    have ih := fun d r => loop_text fs d r fun b hb => hf b (by simp [hb])
    show loopF (f :: (fs ++ [116])) c rest true = stepsF (f :: (fs ++ [116])) (wW (fs.length + 1) rest) c
    unfold loopF
    rw [if_pos rfl, if_neg h116]
    rcases blank_cases rest with h | ⟨x, r, rfl, h⟩
    · rw [wW_none h, cutB_miss h]
      dsimp only
      unfold stepsF
      cases stepF f rest c with
      | none => rfl
      | some d =>
        dsimp only
        cases fs with
        | nil => rfl
        | cons g gs => rfl
    · rw [wW_hit h, cutB_hit h]
      dsimp only
      unfold stepsF
      cases stepF f x c with
      | none => rfl
      | some d => exact ih d r
theorem steps_len : ∀ (form : List UInt8) (ws : List (List UInt8)) (c : Cmd), ws.length ≠ form.length → stepsF form ws c = none
  | [], [], c, h => absurd rfl h
  | [], w :: ws, c, _ => rfl
  | f :: fs, [], c, _ => rfl
  | f :: fs, w :: ws, c, h => by
    unfold stepsF
    cases stepF f w c with
    | none => rfl
    | some d => exact steps_len fs ws d (by simpa using h)
end Go.Proofs.YthcpfmibcoeleaaDoor.Cm
namespace Go.Proofs.YthcpfmibcoeleaaDoor.Cm
open Go Go.RowKit Am Go.Proofs.YthcpfmibcoeleaaDoor.Id
set_option linter.unusedSimpArgs false
set_option linter.unusedVariables false
def dotsF : List UInt8 → List (List UInt8)
  | [] => [[]]
  | c :: r => if c = 46 then [] :: dotsF r else match dotsF r with
    | [] => [[c]]
    | x :: xs => (c :: x) :: xs
theorem dots_none : ∀ {s : List UInt8}, (∀ b ∈ s, b ≠ 46) → dotsF s = [s]
  | [], _ => rfl
  | c :: r, h => by
    have h0 : ¬ c = 46 := h c (by simp)
    have ih := dots_none (s := r) fun b hb => h b (by simp [hb])
    simp [dotsF, h0, ih]
theorem dots_hit : ∀ {x : List UInt8}, (∀ b ∈ x, b ≠ 46) → ∀ r, dotsF (x ++ 46 :: r) = x :: dotsF r
  | [], _, r => by simp [dotsF]
  | c :: t, h, r => by
    have h0 : ¬ c = 46 := h c (by simp)
    have ih := dots_hit (x := t) (fun b hb => h b (by simp [hb])) r
    simp [dotsF, h0, ih]
theorem dot_cases : ∀ s : List UInt8, (∀ b ∈ s, b ≠ 46) ∨ ∃ x r, s = x ++ 46 :: r ∧ ∀ b ∈ x, b ≠ 46
  | [] => .inl fun b hb => by cases hb
  | c :: r => by
    by_cases hc : c = 46
    · exact .inr ⟨[], r, by rw [hc]; rfl, fun b hb => by cases hb⟩
    · rcases dot_cases r with h | ⟨x, r', h1, h2⟩
      · exact .inl fun b hb => by
          rcases List.mem_cons.1 hb with rfl | hb
          · exact hc
          · exact h b hb
      · exact .inr ⟨c :: x, r', by rw [h1]; rfl, fun b hb => by
          rcases List.mem_cons.1 hb with rfl | hb
          · exact hc
          · exact h2 b hb⟩
theorem dots_cons {r x : List UInt8} {xs : List (List UInt8)} (h : dotsF r = x :: xs) : (xs = [] ∧ r = x) ∨ ∃ r', r = x ++ 46 :: r' ∧ dotsF r' = xs := by
  rcases dot_cases r with h1 | ⟨y, r', rfl, h1⟩
  · rw [dots_none h1] at h
    cases h
    exact .inl ⟨rfl, rfl⟩
  · rw [dots_hit h1] at h
    cases h
    exact .inr ⟨r', rfl, rfl⟩
theorem dots_ne (r : List UInt8) : dotsF r ≠ [] := by
  rcases dot_cases r with h1 | ⟨y, r', rfl, h1⟩
  · rw [dots_none h1]; simp
  · rw [dots_hit h1]; simp
def numsR : List (List UInt8) → Option (List Int)
  | [] => some []
  | p :: ps => match numR p with
    | some n => if 0 ≤ n ∧ n ≤ 2147483647 then (numsR ps).map (n :: ·) else none
    | none => none
theorem nums_step {p : List UInt8} {n : Int} (ps : List (List UInt8)) (hn : numR p = some n) (hb : 0 ≤ n ∧ n ≤ 2147483647) : numsR (p :: ps) = (numsR ps).map (n :: ·) := by
  rw [numsR, hn]
  dsimp only
  rw [if_pos hb]
theorem nums_cons {p : List UInt8} {ps : List (List UInt8)} {l : List Int} (h : numsR (p :: ps) = some l) : ∃ n l', l = n :: l' ∧ mayI n ∧ p = Lib.itoa n ∧ numsR ps = some l' := by
  unfold numsR at h
  cases hn : numR p with
  | none => rw [hn] at h; cases h
  | some n =>
    rw [hn] at h
    dsimp only at h
    split at h
    · rename_i hb
      cases hp : numsR ps with
      | none => rw [hp] at h; cases h
      | some l' =>
        rw [hp] at h
        cases h
        exact ⟨n, l', rfl, hb, (itoa_numR hn).1.symm, rfl⟩
    · cases h
theorem nums_itoa {n : Int} (hn : mayI n) (ps : List (List UInt8)) : numsR (Lib.itoa n :: ps) = (numsR ps).map (n :: ·) := by
  rw [numsR, numR_itoa (by have := hn.1; omega) (by have := hn.2; omega)]
  dsimp only
  rw [if_pos (show 0 ≤ n ∧ n ≤ 2147483647 from hn)]
def threeR (N : Option (List Int)) : Option (Int × Int × Int) := match N with
  | some [a, b, c] => some (a, b, c)
  | _ => none
def paneR (s : List UInt8) : Option (Int × Int × Int) := match s with
  | [] => none
  | c :: r => if c = 112 then threeR (numsR (dotsF r)) else none
theorem paneR_words {a b c : Int} (ha : mayI a) (hb : mayI b) (hc : mayI c) : paneR (wordsF a b c) = some (a, b, c) := by
  unfold wordsF paneR
  dsimp only
  rw [if_pos rfl, dots_hit (digit_ne (itoa_digit ha.1)), dots_hit (digit_ne (itoa_digit hb.1)), dots_none (digit_ne (itoa_digit hc.1)), nums_itoa ha, nums_itoa hb, nums_itoa hc]
  rfl
theorem paneR_some {s : List UInt8} {a b c : Int} (h : paneR s = some (a, b, c)) : mayI a ∧ mayI b ∧ mayI c ∧ s = wordsF a b c := by
  unfold paneR at h
  split at h
  · cases h
  · rename_i c0 r
    split at h
    · rename_i h0
      unfold threeR at h
      split at h
      · rename_i a' b' c' hN
        cases h
        cases hd : dotsF r with
        | nil => exact absurd hd (dots_ne r)
        | cons x xs =>
          rw [hd] at hN
          obtain ⟨n1, l1, e1, m1, x1, hN⟩ := nums_cons hN
          cases e1
          rcases dots_cons hd with ⟨rfl, _⟩ | ⟨r1, hr1, hd1⟩
          · cases hN
          · cases xs with
            | nil => exact absurd hd1 (dots_ne r1)
            | cons y ys =>
              obtain ⟨n2, l2, e2, m2, x2, hN⟩ := nums_cons hN
              cases e2
              rcases dots_cons hd1 with ⟨rfl, _⟩ | ⟨r2, hr2, hd2⟩
              · cases hN
              · cases ys with
                | nil => exact absurd hd2 (dots_ne r2)
                | cons z zs =>
                  obtain ⟨n3, l3, e3, m3, x3, hN⟩ := nums_cons hN
                  cases e3
                  rcases dots_cons hd2 with ⟨rfl, hr3⟩ | ⟨r3, hr3, hd3⟩
                  · exact ⟨m1, m2, m3, by unfold wordsF; rw [h0, hr1, hr2, hr3, x1, x2, x3]⟩
                  · cases zs with
                    | nil => exact absurd hd3 (dots_ne r3)
                    | cons u us =>
                      obtain ⟨n4, l4, e4, _⟩ := nums_cons hN
                      cases e4
      · cases h
    · cases h
theorem pane_eq (s : List UInt8) : paneF s = paneR s := by
  cases h : paneR s with
  | some x =>
    obtain ⟨a, b, c⟩ := x
    obtain ⟨ha, hb, hc, rfl⟩ := paneR_some h
    obtain ⟨an, rfl⟩ : ∃ n : Nat, a = n := ⟨a.toNat, by have := ha.1; omega⟩
    obtain ⟨bn, rfl⟩ : ∃ n : Nat, b = n := ⟨b.toNat, by have := hb.1; omega⟩
    obtain ⟨cn, rfl⟩ : ∃ n : Nat, c = n := ⟨c.toNat, by have := hc.1; omega⟩
    unfold paneF
    rw [refF_of (by have := ha.2; omega) (by have := hb.2; omega) (by have := hc.2; omega)]
    rfl
  | none =>
    unfold paneF
    cases hF : refF s with
    | none => rfl
    | some x =>
      obtain ⟨a, b, c⟩ := x
      obtain ⟨h1, h2, h3, h4⟩ := refF_some hF
      rw [h4, paneR_words ⟨by omega, by omega⟩ ⟨by omega, by omega⟩ ⟨by omega, by omega⟩] at h
      cases h
end Go.Proofs.YthcpfmibcoeleaaDoor.Cm
