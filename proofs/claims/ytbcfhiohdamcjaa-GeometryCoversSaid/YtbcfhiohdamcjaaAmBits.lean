/- Sets as bits of 64-bit numbers. -/
import Derived.Test.YtbcfhiohdamcjaaAmSched
import Derived.Lib.TrailingZeros
import Derived.Laws.Bits64b
set_option linter.unusedSimpArgs false
set_option linter.unusedVariables false
set_option linter.unusedSectionVars false
set_option linter.unnecessarySimpa false
namespace Am
open Go Go.RowKit
abbrev M64 : Nat := 18446744073709551616
def u64v (n : Nat) : AV := .int .u64 n
theorem ofInt64 (a : Nat) (ha : a < M64) : (BitVec.ofInt 64 (a : Int)).toNat = a := by
  rw [BitVec.ofInt_natCast, BitVec.toNat_ofNat]; exact Nat.mod_eq_of_lt (by unfold M64 at ha; omega)
theorem binEv_and64 (a b : Nat) (ha : a < M64) (hb : b < M64) : binEv .and (.int .u64 (a : Int)) (.int .u64 (b : Int)) = some (.int .u64 ((a &&& b : Nat) : Int)) := by
  have h : IntKind.u64.wrap ((BitVec.ofInt IntKind.u64.bits (a : Int) &&& BitVec.ofInt IntKind.u64.bits (b : Int)).toNat : Int) = ((a &&& b : Nat) : Int) := Go.bits_and_u64_nat a b ha hb
  show some (AV.int .u64 (IntKind.u64.wrap ((BitVec.ofInt IntKind.u64.bits (a : Int) &&& BitVec.ofInt IntKind.u64.bits (b : Int)).toNat : Int))) = _
  rw [h]
theorem binEv_or64 (a b : Nat) (ha : a < M64) (hb : b < M64) : binEv .or (.int .u64 (a : Int)) (.int .u64 (b : Int)) = some (.int .u64 ((a ||| b : Nat) : Int)) := by
  have h : IntKind.u64.wrap ((BitVec.ofInt IntKind.u64.bits (a : Int) ||| BitVec.ofInt IntKind.u64.bits (b : Int)).toNat : Int) = ((a ||| b : Nat) : Int) := Go.bits_or_u64_nat a b ha hb
  show some (AV.int .u64 (IntKind.u64.wrap ((BitVec.ofInt IntKind.u64.bits (a : Int) ||| BitVec.ofInt IntKind.u64.bits (b : Int)).toNat : Int))) = _
  rw [h]
/-- What is in 'a' and not in 'b'. -/
def nandN (a b : Nat) : Nat := a &&& (M64 - (b + 1))
theorem wrapU (n : Nat) (h : n < M64) : IntKind.u64.wrap (n : Int) = n := by
  rw [IntKind.wrap_u64]; unfold M64 at h; omega
theorem and_lt64 (a b : Nat) (ha : a < M64) : a &&& b < M64 := Nat.lt_of_le_of_lt Nat.and_le_left ha
theorem or_lt64 (a b : Nat) (ha : a < M64) (hb : b < M64) : a ||| b < M64 := Nat.or_lt_two_pow (n := 64) ha hb
theorem binEv_nand64 (a b : Nat) (ha : a < M64) (hb : b < M64) : binEv .andNot (.int .u64 (a : Int)) (.int .u64 (b : Int)) = some (.int .u64 ((nandN a b : Nat) : Int)) := by
  show some (AV.int .u64 (IntKind.u64.wrap ((BitVec.ofInt 64 (a : Int) &&& ~~~ BitVec.ofInt 64 (b : Int)).toNat : Int))) = _
  have e : (BitVec.ofInt 64 (a : Int) &&& ~~~ BitVec.ofInt 64 (b : Int)).toNat = nandN a b := by
    rw [BitVec.toNat_and, ofInt64 a ha, BitVec.toNat_not, ofInt64 b hb]
    unfold nandN M64
    congr 1
    omega
  rw [e, wrapU _ (show nandN a b < M64 from and_lt64 _ _ ha)]
theorem nandN_zero (a b : Nat) (ha : a < M64) (hb : b < M64) : nandN a b = 0 ↔ ∀ j, a.testBit j = true → b.testBit j = true := by
  have hb' : ∀ j, (M64 - (b + 1)).testBit j = (decide (j < 64) && !b.testBit j) := fun j => Nat.testBit_two_pow_sub_succ (n := 64) hb j
  constructor
  · intro h j hj
    have h1 : (nandN a b).testBit j = false := by rw [h]; simp
    unfold nandN at h1
    rw [Nat.testBit_and, hj, hb' j] at h1
    have hlt : j < 64 := by
      rcases Nat.lt_or_ge j 64 with h2 | h2
      · exact h2
      · have := Nat.testBit_lt_two_pow (Nat.lt_of_lt_of_le ha (Nat.pow_le_pow_right (by decide) h2 : 2 ^ 64 ≤ 2 ^ j))
        rw [this] at hj; cases hj
    simpa [hlt] using h1
  · intro h
    apply Nat.eq_of_testBit_eq
    intro j
    unfold nandN
    rw [Nat.testBit_and, hb' j]
    cases hj : a.testBit j with
    | false => simp
    | true => simp [h j hj]
theorem pow_lt64 {b : Nat} (hb : b < 64) : 2 ^ b < M64 := Nat.pow_lt_pow_right (by decide) hb
theorem binEv_shl1 (b : Nat) (hb : b < 64) : binEv .shl (.int .u64 1) (.int .i64 (b : Int)) = some (.int .u64 ((2 ^ b : Nat) : Int)) := by
  have h0 : ¬ ((b : Int) < 0) := by omega
  show (if (b : Int) < 0 then none else some (AV.int .u64 (IntKind.u64.wrap (1 * 2 ^ (min (b : Int).toNat 64))))) = _
  rw [if_neg h0]
  have e : (1 * 2 ^ (min (b : Int).toNat 64) : Int) = ((2 ^ b : Nat) : Int) := by
    rw [Int.toNat_natCast, Nat.min_eq_left (by omega)]; simp
  rw [e, wrapU _ (pow_lt64 hb)]
theorem binEv_shr64 (x a : Nat) (ha : a < 64) : binEv .shr (.int .u64 (x : Int)) (.int .i64 (a : Int)) = some (.int .u64 ((x / 2 ^ a : Nat) : Int)) := by
  have h0 : ¬ ((a : Int) < 0) := by omega
  show (if (a : Int) < 0 then none else some (AV.int .u64 ((x : Int).fdiv (2 ^ (min (a : Int).toNat 64))))) = _
  rw [if_neg h0]
  have e : ((x : Int).fdiv (2 ^ (min (a : Int).toNat 64))) = ((x / 2 ^ a : Nat) : Int) := by
    rw [Int.toNat_natCast, Nat.min_eq_left (by omega)]
    rw [show (2 ^ a : Int) = ((2 ^ a : Nat) : Int) from by simp, Int.fdiv_eq_ediv_of_nonneg _ (Int.natCast_nonneg _), Int.natCast_ediv]
  rw [e]
theorem bit_and1 (x a : Nat) : (x / 2 ^ a) &&& 1 = (x.testBit a).toNat := by
  rw [Nat.and_one_is_mod, Nat.testBit_eq_decide_div_mod_eq]
  have : x / 2 ^ a % 2 < 2 := Nat.mod_lt _ (by decide)
  rcases Nat.lt_or_ge (x / 2 ^ a % 2) 1 with h | h
  · have : x / 2 ^ a % 2 = 0 := by omega
    simp [this]
  · have : x / 2 ^ a % 2 = 1 := by omega
    simp [this]
theorem binEv_dec64 (r : Nat) (h0 : r ≠ 0) (hr : r < M64) : binEv .sub (.int .u64 (r : Int)) (.int .u64 1) = some (.int .u64 ((r - 1 : Nat) : Int)) := by
  show some (AV.int .u64 (IntKind.u64.wrap ((r : Int) - 1))) = _
  rw [show ((r : Int) - 1) = ((r - 1 : Nat) : Int) from by omega, wrapU _ (by omega)]
theorem ctz_low (r : Nat) (h0 : r ≠ 0) (hr : r < M64) : Lib.ctz 64 r < 64 ∧ r.testBit (Lib.ctz 64 r) = true ∧ (∀ j, j < Lib.ctz 64 r → r.testBit j = false) ∧ ∀ j, (r &&& (r - 1)).testBit j = (r.testBit j && decide (j ≠ Lib.ctz 64 r)) := by
  obtain ⟨m, hm, hk⟩ := Lib.ctzFrom_spec 64 r (by omega) hr
  have he : Lib.ctz 64 r = Lib.ctzFrom 64 r := by simp [Lib.ctz, h0]
  rw [he]
  generalize Lib.ctzFrom 64 r = i at *
  have hp : 0 < 2 ^ i := Nat.two_pow_pos i
  have hb : ∀ j, r.testBit j = if j < i then false else (2 * m + 1).testBit (j - i) := by
    intro j
    have := Nat.testBit_two_pow_mul_add (2 * m + 1) hp j
    rw [Nat.add_zero, ← hm] at this
    rw [this]; simp
  have hb1 : ∀ j, (r - 1).testBit j = if j < i then (2 ^ i - 1).testBit j else (2 * m).testBit (j - i) := by
    intro j
    have hlt : 2 ^ i - 1 < 2 ^ i := by omega
    have := Nat.testBit_two_pow_mul_add (2 * m) hlt j
    have e : r - 1 = 2 ^ i * (2 * m) + (2 ^ i - 1) := by rw [hm, Nat.mul_add]; omega
    rw [e, this]
  refine ⟨hk, ?_, fun j hj => by rw [hb j, if_pos hj], fun j => ?_⟩
  · rw [hb i, if_neg (by omega), Nat.sub_self]; simp
  · rw [Nat.testBit_and, hb j, hb1 j]
    by_cases h1 : j < i
    · simp [h1]
    · rw [if_neg h1, if_neg h1]
      by_cases h2 : j = i
      · subst h2; simp
      · obtain ⟨d, hd⟩ : ∃ d, j - i = d + 1 := ⟨j - i - 1, by omega⟩
        rw [hd, Nat.testBit_succ, Nat.testBit_succ]
        have e1 : (2 * m + 1) / 2 = m := by omega
        have e2 : 2 * m / 2 = m := by omega
        rw [e1, e2]
        simp [h2]
theorem clear_lt (r : Nat) (h0 : r ≠ 0) : r &&& (r - 1) < r := by
  have := Nat.and_le_right (n := r) (m := r - 1)
  omega
theorem zero_of_bits {r : Nat} (h : ∀ j, r.testBit j = false) : r = 0 := Nat.eq_of_testBit_eq fun j => by rw [h j]; simp
/-- The index that the table names. -/
theorem tz_key (x : Nat) (hx0 : x ≠ 0) (hx : x < M64) : ∃ idx : Nat, idx < 64 ∧ Lib.deBruijn64tab.getD idx 0 = Lib.ctz 64 x ∧
    (IntKind.u64.wrap ((x &&& (M64 - x) : Nat) * 285870213051353865 : Int)).fdiv 288230376151711744 = (idx : Int) := by
  obtain ⟨hlow, hk⟩ := Lib.lowest_bit 64 x hx0 hx
  obtain ⟨hi, htab⟩ := Lib.deBruijn64_at _ hk
  refine ⟨_, hi, htab, ?_⟩
  rw [show M64 = 2 ^ 64 from rfl, hlow, IntKind.wrap_u64, Int.fdiv_eq_ediv_of_nonneg _ (by omega)]
  generalize 2 ^ Lib.ctz 64 x = p
  omega
/-! Arithmetic one operation at a time: for texts that speak of bits ('binEv', 'intBin' struck from simp's words). -/
section
variable (k : IntKind) (a b : Int)
theorem binEv_lss : binEv .lss (.int k a) (.int k b) = some (.bool (decide (a < b))) := by simp [binEv, intBin]
theorem binEv_leq : binEv .leq (.int k a) (.int k b) = some (.bool (decide (a ≤ b))) := by simp [binEv, intBin]
theorem binEv_gtr : binEv .gtr (.int k a) (.int k b) = some (.bool (decide (a > b))) := by simp [binEv, intBin]
theorem binEv_geq : binEv .geq (.int k a) (.int k b) = some (.bool (decide (a ≥ b))) := by simp [binEv, intBin]
theorem binEv_eql : binEv .eql (.int k a) (.int k b) = some (.bool (decide (a = b))) := by simp [binEv, intBin]
theorem binEv_neq : binEv .neq (.int k a) (.int k b) = some (.bool (!decide (a = b))) := by simp [binEv, intBin]
theorem binEv_add : binEv .add (.int k a) (.int k b) = some (.int k (k.wrap (a + b))) := by simp [binEv, intBin]
theorem binEv_sub : binEv .sub (.int k a) (.int k b) = some (.int k (k.wrap (a - b))) := by simp [binEv, intBin]
theorem binEv_mul : binEv .mul (.int k a) (.int k b) = some (.int k (k.wrap (a * b))) := by simp [binEv, intBin]
theorem binEv_shr58 (n : Int) : binEv .shr (.int .u64 n) (.int .u64 58) = some (.int .u64 (n.fdiv 288230376151711744)) := rfl
end
theorem read1_ro (R : Ro) (H : AH) (b o : Nat) : read1 R H (.ro b) o = R b o := of_eq_true (eq_self _)
theorem read1_mu (R : Ro) (H : AH) (i o : Nat) : read1 R H (.mu i) o = (match (H[i]?).bind AO.content with
  | some c => c[o]?
  | none => none) := of_eq_true (eq_self _)
/-- A slice, wherever it lies, whose elements (of one cell) read as told. -/
def Sees (R : Ro) (H : AH) (v : AV) (f : List AV) : Prop := (v = .nilslice ∧ f = []) ∨ ∃ l off cap, v = .slice l off f.length cap ∧ ∀ (i : Nat) x, f[i]? = some x → read1 R H l (off + i) = some x
theorem Sees.frame {R : Ro} {H H' : AH} {v : AV} {f : List AV} (h : Sees R H v f) (hf : ∀ i, i < H.length → H'[i]? = H[i]?) : Sees R H' v f := by
  rcases h with h | ⟨l, off, cap, rfl, h⟩
  · exact .inl h
  · refine .inr ⟨l, off, cap, rfl, fun i x hx => ?_⟩
    have h1 := h i x hx
    cases l with
    | ro b => rw [read1_ro] at h1 ⊢; exact h1
    | mu k =>
      rw [read1_mu] at h1 ⊢
      by_cases hk : k < H.length
      · rw [hf k hk]; exact h1
      · rw [List.getElem?_eq_none (by omega)] at h1; simp at h1
theorem Sees.lenL {R : Ro} {H : AH} {v : AV} {f : List AV} (h : Sees R H v f) : (v = .nilslice ∧ f = []) ∨ ∃ l off cap, v = .slice l off f.length cap := by
  rcases h with h | ⟨l, off, cap, rfl, h⟩
  · exact .inl h
  · exact .inr ⟨l, off, cap, rfl⟩
theorem binEv_nandI (a b : Nat) (ha : a < 4611686018427387904) (hb : b < 4611686018427387904) : binEv .andNot (.int .i64 (a : Int)) (.int .i64 (b : Int)) = some (.int .i64 ((nandN a b : Nat) : Int)) := by
  show some (AV.int .i64 (IntKind.i64.wrap ((BitVec.ofInt 64 (a : Int) &&& ~~~ BitVec.ofInt 64 (b : Int)).toNat : Int))) = _
  have ha' : a < M64 := by unfold M64; omega
  have hb' : b < M64 := by unfold M64; omega
  have e : (BitVec.ofInt 64 (a : Int) &&& ~~~ BitVec.ofInt 64 (b : Int)).toNat = nandN a b := by
    rw [BitVec.toNat_and, ofInt64 a ha', BitVec.toNat_not, ofInt64 b hb']
    unfold nandN M64
    congr 1
    omega
  have hle : nandN a b ≤ a := Nat.and_le_left
  rw [e, wrap_small .i64 _ (by simp only [mx]; omega) (by simp only [neg?, mx, if_true]; omega)]
theorem binEv_remI (a r : Nat) (hr : r ≠ 0) : binEv .rem (.int .i64 (a : Int)) (.int .i64 (r : Int)) = some (.int .i64 ((a % r : Nat) : Int)) := by
  have h0 : ¬ ((r : Int) = 0) := by omega
  show (if (r : Int) = 0 then none else some (AV.int .i64 ((a : Int).tmod r))) = _
  rw [if_neg h0]; rfl
theorem binEv_quoI (a r : Nat) (hr : r ≠ 0) (ha : a < 4611686018427387904) : binEv .quo (.int .i64 (a : Int)) (.int .i64 (r : Int)) = some (.int .i64 ((a / r : Nat) : Int)) := by
  have h0 : ¬ ((r : Int) = 0) := by omega
  show (if (r : Int) = 0 then none else some (AV.int .i64 (IntKind.i64.wrap ((a : Int).tdiv r)))) = _
  rw [if_neg h0]
  have e : (a : Int).tdiv r = ((a / r : Nat) : Int) := rfl
  have : a / r ≤ a := Nat.div_le_self _ _
  generalize a / r = z at *
  rw [e, wrap_small .i64 _ (by simp only [mx]; omega) (by simp only [neg?, mx, if_true]; omega)]
theorem binEv_shlI (a s : Nat) (hs : s ≤ 6) (ha : a ≤ 64) : binEv .shl (.int .i64 (a : Int)) (.int .i64 (s : Int)) = some (.int .i64 ((a * 2 ^ s : Nat) : Int)) := by
  have h0 : ¬ ((s : Int) < 0) := by omega
  show (if (s : Int) < 0 then none else some (AV.int .i64 (IntKind.i64.wrap ((a : Int) * 2 ^ (min (s : Int).toNat 64))))) = _
  rw [if_neg h0]
  have e : ((a : Int) * 2 ^ (min (s : Int).toNat 64) : Int) = ((a * 2 ^ s : Nat) : Int) := by
    rw [Int.toNat_natCast, Nat.min_eq_left (by omega)]; simp
  have hp : 2 ^ s ≤ 2 ^ 6 := Nat.pow_le_pow_right (by decide) hs
  have hb : a * 2 ^ s ≤ 64 * 2 ^ 6 := Nat.mul_le_mul ha hp
  rw [e, wrap_small .i64 _ (by simp only [mx]; omega) (by simp only [neg?, mx, if_true]; omega)]
/-- Bit 'a', as the code reads it. -/
theorem binEv_bit (x a : Nat) (hx : x < M64) (ha : a < 64) : ∃ s : Nat, binEv .shr (.int .u64 (x : Int)) (.int .i64 (a : Int)) = some (.int .u64 (s : Int)) ∧ binEv .and (.int .u64 (s : Int)) (.int .u64 1) = some (.int .u64 (if x.testBit a then 1 else 0)) := by
  refine ⟨x / 2 ^ a, binEv_shr64 x a ha, ?_⟩
  have h := binEv_and64 (x / 2 ^ a) 1 (Nat.lt_of_le_of_lt (Nat.div_le_self _ _) hx) (by unfold M64; omega)
  rw [bit_and1] at h
  cases hb : x.testBit a with
  | true => rw [hb] at h; exact h
  | false => rw [hb] at h; exact h
theorem binEv_pow (b : Nat) (hb : b < 64) : ∃ s : Nat, s = 2 ^ b ∧ s < M64 ∧ binEv .shl (.int .u64 1) (.int .i64 (b : Int)) = some (.int .u64 (s : Int)) := ⟨2 ^ b, rfl, pow_lt64 hb, binEv_shl1 b hb⟩
theorem lt64_of_bits {x n : Nat} (h : ∀ j, x.testBit j = true → j < n) (hn : n ≤ 64) : x < M64 := by
  refine Nat.lt_pow_two_of_testBit (n := 64) x fun j hj => ?_
  cases hb : x.testBit j with
  | false => rfl
  | true => have := h j hb; omega
/-- Element 'i' of a list of bits. -/
def at' (of : List Nat) (i : Nat) : Nat := of.getD i 0
theorem at'_lt {of : List Nat} {i : Nat} (h : i < of.length) : at' of i = of[i] := by unfold at'; rw [List.getD_eq_getElem?_getD, List.getElem?_eq_getElem h]; rfl
theorem at'_mem {of : List Nat} {i : Nat} (h : i < of.length) : at' of i ∈ of := by rw [at'_lt h]; exact List.getElem_mem h
theorem at'_ge {of : List Nat} {i : Nat} (h : of.length ≤ i) : at' of i = 0 := by unfold at'; rw [List.getD_eq_getElem?_getD, List.getElem?_eq_none h]; rfl
theorem at'_map {of : List Nat} {i : Nat} (h : i < of.length) : (of.map u64v)[i]? = some (u64v (at' of i)) := by rw [List.getElem?_map, List.getElem?_eq_getElem h, at'_lt h]; rfl
theorem at'_set {of : List Nat} {i : Nat} (x j : Nat) (h : i < of.length) : at' (of.set i x) j = if j = i then x else at' of j := by
  unfold at'
  rw [List.getD_eq_getElem?_getD, List.getD_eq_getElem?_getD, List.getElem?_set]
  by_cases e : i = j
  · subst e; simp [h]
  · rw [if_neg e, if_neg (Ne.symm e)]
theorem splice_one {l : List AV} {i : Nat} {v : AV} (h : i < l.length) : splice l i [v] = l.set i v := by
  unfold splice
  rw [List.set_eq_take_append_cons_drop, if_pos h]
  simp
theorem zerosEv_one (v : AV) : ∀ n, zerosEv [v] n = List.replicate n v
  | 0 => rfl
  | n + 1 => by unfold zerosEv; rw [zerosEv_one v n]; rfl
end Am
