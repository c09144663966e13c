/- What the runes of a text are, as far as a command's text asks. -/
import Derived.Test.YthcpfmibcoeleaaDoorCmPure
import Derived.Laws.RangeString
namespace Go.Proofs.YthcpfmibcoeleaaDoor.Cm
open Go Go.RowKit Am Go.Proofs.YthcpfmibcoeleaaDoor.Id
set_option linter.unusedSimpArgs false
set_option linter.unusedVariables false
theorem get_list (s : List UInt8) (pos : Nat) (b : UInt8) (h : s[pos]? = some b) : ∃ hp : pos < (⟨⟨s⟩⟩ : ByteArray).size, (⟨⟨s⟩⟩ : ByteArray)[pos]'hp = b := by
  obtain ⟨h1, h2⟩ := List.getElem?_eq_some_iff.1 h
  exact ⟨h1, h2⟩
theorem dec_low {s : List UInt8} {pos : Nat} {b : UInt8} (h : s[pos]? = some b) (hb : b.toNat < 128) : Utf8.decode ⟨⟨s⟩⟩ pos = (b.toNat, 1) := by
  obtain ⟨hp, he⟩ := get_list s pos b h
  rw [decode_ascii _ pos hp (by rw [he]; exact hb), he]
theorem dec_high {s : List UInt8} {pos : Nat} {b : UInt8} (h : s[pos]? = some b) (hb : 128 ≤ b.toNat) : 128 ≤ (Utf8.decode ⟨⟨s⟩⟩ pos).1 := by
  obtain ⟨hp, he⟩ := get_list s pos b h
  have h0 : ((⟨⟨s⟩⟩ : ByteArray).get! (pos + 0)).toNat = b.toNat := by
    have e : (⟨⟨s⟩⟩ : ByteArray).get! (pos + 0) = (⟨⟨s⟩⟩ : ByteArray)[pos]'hp := by
      show (⟨⟨s⟩⟩ : ByteArray).get! pos = _
      have h' : pos < s.length := (List.getElem?_eq_some_iff.1 h).1
      simp [ByteArray.get!, getElem!_pos, h']
      rfl
    rw [e, he]
  unfold Utf8.decode
  simp only [h0]
  rw [if_neg (by omega)]
  unfold Utf8.runeError
  repeat' split
  all_goals first
    | omega
    | (rename_i hh; simp only [Bool.and_eq_true, decide_eq_true_eq] at hh; have := hh.1; simp only; omega)
    | (simp only; omega)
/-- A byte that may not stand in a text: its rune may not. -/
theorem dec_odd {s : List UInt8} {pos : Nat} {b : UInt8} (h : s[pos]? = some b) (hb : fineB b = false) : (Utf8.decode ⟨⟨s⟩⟩ pos).1 < 32 ∨ 126 < (Utf8.decode ⟨⟨s⟩⟩ pos).1 := by
  unfold fineB at hb
  by_cases h1 : b.toNat < 128
  · rw [dec_low h h1]
    simp at hb
    dsimp only
    omega
  · have := dec_high h (by omega)
    omega
theorem dec_fine {s : List UInt8} {pos : Nat} {b : UInt8} (h : s[pos]? = some b) (hb : fineB b = true) : Utf8.decode ⟨⟨s⟩⟩ pos = (b.toNat, 1) ∧ 32 ≤ b.toNat ∧ b.toNat ≤ 126 := by
  unfold fineB at hb
  simp at hb
  exact ⟨dec_low h (by omega), hb.1, hb.2⟩
end Go.Proofs.YthcpfmibcoeleaaDoor.Cm
