/- How many panes a tree has, in the evaluator's words. -/
import Derived.Test.YtbcfhiohdamcjaaTrNil
import Derived.Test.YtbcfhiohdamcjaaAmInsC
namespace Go.Proofs.Ytbcfhiohdamcjaa.Tr
open Go Go.RowKit Am
set_option maxRecDepth 100000
set_option linter.unusedSimpArgs false
set_option linter.unusedVariables false
variable {R : Ro}
def decN (n : Nat) : List AV → Option (List ND) := Nat.rec (motive := fun _ => List AV → Option (List ND)) (fun L => match L with | [] => some [] | _ => none)
  (fun _ ih L => match L with
    | .int .i64 a :: .int .i64 b :: .int .i64 c :: .int .i64 d :: .int .i64 e :: .int .i64 f :: .int .i64 g :: L => match ih L with
      | some l => some (⟨a, b, c, d, e, f, g⟩ :: l)
      | none => none
    | _ => none) n
theorem decN_zero (L : List AV) : decN 0 L = match L with | [] => some [] | _ => none := rfl
theorem decN_succ (n : Nat) (L : List AV) : decN (n + 1) L = match L with
    | .int .i64 a :: .int .i64 b :: .int .i64 c :: .int .i64 d :: .int .i64 e :: .int .i64 f :: .int .i64 g :: L => match decN n L with
      | some l => some (⟨a, b, c, d, e, f, g⟩ :: l)
      | none => none
    | _ => none := rfl
theorem decN_ok : ∀ (n : Nat) (L : List AV) (N : List ND), decN n L = some N → L = ndV N ∧ N.length = n
  | 0, L, N, h => by
    rw [decN_zero] at h
    split at h
    · cases h; exact ⟨rfl, rfl⟩
    · cases h
  | n + 1, L, N, h => by
    rw [decN_succ] at h
    split at h
    · rename_i L'
      split at h
      · rename_i l hl
        cases h
        obtain ⟨h1, h2⟩ := decN_ok n L' l hl
        exact ⟨by rw [h1]; rfl, by simp [h2]⟩
      · cases h
    · cases h
noncomputable section
/-- A tree's nodes, out of the heap. -/
def treK (h : HT) (t : Nat) (q : List ND → Bool) : Bool := match gH h t with
  | .cells [.slice (.mu j) 0 l cp] ty => chk (Nat.beq ty 58) (chk (Nat.ble 1 l) (chk (Nat.ble l 1000) (match gH h j with
    | .cells C _ => match decN l C with
      | some N => q N
      | none => false
    | .row C _ _ => match decN l C with
      | some N => q N
      | none => false
    | _ => false)))
  | _ => false
theorem treK_ok {h : HT} {n : Nat} {H : AH} (s : Sim h n H) {t : Nat} {q : List ND → Bool} (hk : treK h t q = true) : ∃ j l cp N, Tre H t j l cp (ndV N) N ∧ q N = true := by
  unfold treK at hk
  split at hk
  · rename_i j l cp ty ht
    obtain ⟨h1, hk1⟩ := chk_ok hk
    obtain ⟨h2, hk2⟩ := chk_ok hk1
    obtain ⟨h3, hk3⟩ := chk_ok hk2
    clear hk hk1 hk2
    obtain rfl := beq_ok h1
    have h2 := Nat.le_of_ble_eq_true h2
    have h3 := Nat.le_of_ble_eq_true h3
    obtain ⟨_, ht'⟩ := s.at ht rfl
    split at hk3
    · rename_i C tC hj
      obtain ⟨_, hj'⟩ := s.at hj rfl
      split at hk3
      · rename_i N hN
        obtain ⟨e1, e2⟩ := decN_ok _ _ _ hN
        subst e1
        exact ⟨j, l, cp, N, ⟨ht', by rw [hj']; rfl, List.take_of_length_le (by rw [ndV_len, e2]; omega), e2, h2, h3⟩, hk3⟩
      · cases hk3
    · rename_i C tC sC hj
      obtain ⟨_, hj'⟩ := s.at hj rfl
      split at hk3
      · rename_i N hN
        obtain ⟨e1, e2⟩ := decN_ok _ _ _ hN
        subst e1
        exact ⟨j, l, cp, N, ⟨ht', by rw [hj']; rfl, List.take_of_length_le (by rw [ndV_len, e2]; omega), e2, h2, h3⟩, hk3⟩
      · cases hk3
    · cases hk3
  · cases hk
def ctrLen : Ctr := fun _ args h n k => match args with
  | [.ptr (.mu t) 0] => treK h t fun N => fN (lv N).length fun c => k (.int .i64 (.ofNat c)) h n
  | _ => false
theorem ctrLen_ok : CtrOk Try.prog R 35 ctrLen := by
  intro m _ _ args h n k H s hk
  unfold ctrLen at hk
  split at hk
  · rename_i t
    obtain ⟨j, l, cp, N, ht, hq⟩ := treK_ok s hk
    rw [fN_eq] at hq
    exact CtrOk.done s hq (ht.len.mono fun v G h => ⟨h.2, h.1⟩)
  · cases hk
end
end Go.Proofs.Ytbcfhiohdamcjaa.Tr
