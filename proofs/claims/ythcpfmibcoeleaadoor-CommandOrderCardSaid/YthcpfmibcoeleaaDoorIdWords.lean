/- The words of a name: what the program's code computes. -/
import Derived.Test.YthcpfmibcoeleaaDoorIdText
import Derived.Test.YthcpfmibcoeleaaDoorAmText
import Derived.Test.YthcpfmibcoeleaaDoorTab
import Derived.Test.YthcpfmibcoeleaaDoorAmApp
import Derived.Test.YthcpfmibcoeleaaDoorAmSched
import Derived.Test.YthcpfmibcoeleaaDoorAmBits
import Derived.Test.YthcpfmibcoeleaaDoorAmInts
import Derived.Test.YthcpfmibcoeleaaDoorAmRun3
namespace Go.Proofs.YthcpfmibcoeleaaDoor.Id
open Go Go.RowKit Am
set_option maxRecDepth 100000
set_option linter.unusedSimpArgs false
set_option linter.unusedVariables false
attribute [-simp] Am.binEv Am.intBin Am.read1
attribute [local simp] binEv_lss binEv_leq binEv_gtr binEv_geq binEv_eql binEv_neq binEv_add binEv_sub binEv_mul binEv_shr58 read1_ro read1_mu
variable {R : Ro}
theorem i64_ok (z : Int) (h1 : -4611686018427387904 ≤ z) (h2 : z ≤ 4611686018427387904) : IntKind.i64.wrap z = z :=
  wrap_small .i64 z (by simp only [mx]; omega) (by simp only [neg?, mx, if_true]; omega)
theorem binEv_sadd {x y : List UInt8} (h : x.length + y.length ≤ 9223372036854775807) : binEv .add (.str x) (.str y) = some (.str (x ++ y)) := by simp [binEv, strBin, h]
theorem binEv_seql (x y : List UInt8) : binEv .eql (.str x) (.str y) = some (.bool (decide (x = y))) := by simp [binEv, strBin]; by_cases h : x = y <;> simp [h]
theorem binEv_sneq (x y : List UInt8) : binEv .neq (.str x) (.str y) = some (.bool (!decide (x = y))) := by simp [binEv, strBin]; by_cases h : x = y <;> simp [h]
/-- What the library answers. -/
structure Lb (R : Ro) : Prop where
  itoa : ∀ (n : Int) (H : AH), -9223372036854775808 ≤ n → n ≤ 9223372036854775807 → ACalls Tryd.prog R 29 [.int .i64 n] H fun v H' => v = .str (Lib.itoa n) ∧ H' = H
  join : ∀ {H : AH} {i : Nat} {ss : List (List UInt8)} {t : TypeId}, H[i]? = some (.row (ss.map AV.str) t 1) → ∀ sep : List UInt8, ss.length ≤ 100000 → (Lib.join ss sep).length ≤ 100000 →
    ACalls Tryd.prog R 41 [.slice (.mu i) 0 ss.length (.opn 0), .str sep] H fun v H' => v = .str (Lib.join ss sep) ∧ H' = H
  split : ∀ (s sep : List UInt8) (H : AH), s.length ≤ 10000 → 1 ≤ sep.length → ACalls Tryd.prog R 45 [.str s, .str sep] H fun v H' =>
    v = .slice (.mu H.length) 0 (Lib.count s sep + 1) (.known (Lib.count s sep + 1)) ∧ ∃ t, H' = H ++ [.cells ((Lib.splitK sep 0 (Lib.count s sep) s).map AV.str) t]
  atoi : ∀ (s : List UInt8) (H : AH), s.length ≤ 10000 → ACalls Tryd.prog R 43 [.str s] H fun v H' => ∃ z y E, v = .tuple [.int .i64 z, y] ∧ H' = H ++ E ∧ (∀ z', Lib.atoiAll s = .ok z' → z = z' ∧ y = .niface) ∧ ((∀ z', Lib.atoiAll s ≠ .ok z') → ∃ t p, y = .iface t p)
theorem Keeps.ex {A B : AH} (h : Keeps A B) : ∃ E, B = A ++ E := ⟨B.drop A.length, by
  apply List.ext_getElem?
  intro i
  by_cases hi : i < A.length
  · rw [h.2 i hi, List.getElem?_append_left hi]
  · rw [List.getElem?_append_right (by omega), List.getElem?_drop]
    congr 1
    omega⟩
theorem mayDec (n : Int) : (mayI n) ∨ ¬ mayI n := by unfold mayI; omega
/-- The three numbers, in their places. -/
def nth3 (a b c : Int) (i : Nat) : Int := if i = 0 then a else if i = 1 then b else c
theorem nth3_may {a b c : Int} (i : Nat) (ha : mayI a) (hb : mayI b) (hc : mayI c) : mayI (nth3 a b c i) := by
  unfold nth3
  split
  · exact ha
  · split
    · exact hb
    · exact hc
def itoas (a b c : Int) (i : Nat) : List (List UInt8) := [Lib.itoa a, Lib.itoa b, Lib.itoa c].take i
theorem dec_len : ∀ (k u : Nat), u < 10 ^ k → (Lib.decDigits u).length ≤ k + 1
  | 0, u, h => by rw [dec_small (by simp at h; omega)]; simp
  | k + 1, u, h => by
    by_cases hs : u < 10
    · rw [dec_small hs]; simp
    · rw [dec_big hs, List.length_append, List.length_singleton]
      have := dec_len k (u / 10) (by rw [Nat.pow_succ] at h; omega)
      omega
theorem itoa_len {n : Int} (h : mayI n) : (Lib.itoa n).length ≤ 11 := by
  rw [itoa_pos h.1]
  exact dec_len 10 _ (by have := h.2; have := h.1; omega)
theorem join3 (x y z : List UInt8) : Lib.join [x, y, z] [46] = x ++ 46 :: (y ++ 46 :: z) := by
  rw [Lib.join_cons]
  simp [Lib.joinTail]
def wordsP (a b c : Int) (v : AV) : Prop := (mayI a ∧ mayI b ∧ mayI c ∧ v = .tuple [.str (wordsF a b c), .bool true]) ∨ (¬ (mayI a ∧ mayI b ∧ mayI c) ∧ v = .tuple [.str [], .bool false])
set_option maxHeartbeats 4000000 in
theorem words (L : Lb R) (a b c : Int) (H : AH) : ACalls Tryd.prog R 30 [.agg [.int .i64 a, .int .i64 b, .int .i64 c]] H fun v H' => wordsP a b c v ∧ ∃ E, H' = H ++ E := by
  refine ACalls.of_wpE Fns.ok30 (by simp [Fns.a30]) ?_
  simp [Fns.a30, fillA, splice, zerosEv, AV.oneCell]
  refine AWp.loop (fun e H1 => e 13 = .agg [.int .i64 a, .int .i64 b, .int .i64 c] ∧ ∃ i : Nat, e 14 = .int .i64 i ∧ i ≤ 3 ∧ (0 < i → mayI a) ∧ (1 < i → mayI b) ∧ (2 < i → mayI c) ∧ RowOwn H H1 (e 4) i 1 9 ((itoas a b c i).map AV.str))
    (fun e _ => match e 14 with | .int _ i => ((3 : Int) - i).toNat | _ => 0) ⟨by simp, 0, by simp, by omega, by omega, by omega, by omega, by simpa [itoas] using (RowOwn.nil H 1 9).more (Keeps.app H _)⟩ ?_
  rintro e H1 ⟨h13, i, h14, hi, ma, mb, mc, hrow⟩
  refine wpE_sound _ ?_
  by_cases hl : i < 3
  · have hl' : (i : Int) < 3 := by omega
    have hw1 : IntKind.i64.wrap ((i : Int) + 1) = (i : Int) + 1 := i64_ok _ (by omega) (by omega)
    obtain ⟨n, hn⟩ : ∃ n, nth3 a b c i = n := ⟨_, rfl⟩
    have hget : [AV.int .i64 a, .int .i64 b, .int .i64 c][i]? = some (.int .i64 n) := by
      rw [← hn]
      obtain rfl | rfl | rfl : i = 0 ∨ i = 1 ∨ i = 2 := by omega
      · rfl
      · rfl
      · rfl
    have hget' : ∀ h, [AV.int .i64 a, .int .i64 b, .int .i64 c][i]'h = .int .i64 n := fun h => by rw [List.getElem?_eq_getElem h] at hget; exact Option.some.inj hget
    simp [h13, h14, hl, hl', hget']
    by_cases h0 : n < 0
    · have hno : ¬ (mayI a ∧ mayI b ∧ mayI c) := by
        rintro ⟨h1, h2, h3⟩
        have := nth3_may i h1 h2 h3
        rw [hn] at this
        unfold mayI at this
        omega
      simp [h0]
      exact ⟨.inr ⟨hno, rfl⟩, Keeps.ex hrow.keeps⟩
    · by_cases h1 : n > 2147483647
      · have hno : ¬ (mayI a ∧ mayI b ∧ mayI c) := by
          rintro ⟨h1, h2, h3⟩
          have := nth3_may i h1 h2 h3
          rw [hn] at this
          unfold mayI at this
          omega
        have h1' : 2147483647 < n := h1
        simp [h0, h1, h1']
        exact ⟨.inr ⟨hno, rfl⟩, Keeps.ex hrow.keeps⟩
      · have h1' : ¬ 2147483647 < n := h1
        have h1'' : n ≤ 2147483647 := by omega
        have h0' : 0 ≤ n := by omega
        have hm : mayI n := ⟨h0', h1''⟩
        simp [h0, h1, h1', h1'', h0']
        refine (L.itoa n _ (by omega) (by omega)).mono ?_
        rintro v H2 ⟨rfl, rfl⟩
        obtain ⟨G, hG, hrow2, _, _⟩ := hrow.push (R := R) (by' := 16) (t' := 9) (new := [.str (Lib.itoa n)]) (by omega) (by omega) (by omega) (by simp [AV.oneCell]) rfl (.known 1)
        simp [h0, h13, h14, hw1, hG, fillA, splice, zerosEv, AV.oneCell]
        refine ⟨⟨i + 1, by simp, by omega, ?_, ?_, ?_, ?_⟩, by omega⟩
        · intro _
          by_cases hz : i = 0
          · subst hz; simp [nth3] at hn; rw [hn]; exact hm
          · exact ma (by omega)
        · intro hz
          by_cases hz : i = 1
          · subst hz; simp [nth3] at hn; rw [hn]; exact hm
          · exact mb (by omega)
        · intro hz
          have : i = 2 := by omega
          subst this; simp [nth3] at hn; rw [hn]; exact hm
        · have e : (itoas a b c (i + 1)).map AV.str = (itoas a b c i).map AV.str ++ [.str (Lib.itoa n)] := by
            rw [← hn]
            obtain rfl | rfl | rfl : i = 0 ∨ i = 1 ∨ i = 2 := by omega
            · rfl
            · rfl
            · rfl
          rw [e]
          exact hrow2
  · obtain rfl : i = 3 := by omega
    have ma := ma (by omega)
    have mb := mb (by omega)
    have mc := mc (by omega)
    simp [h13, h14]
    rcases hrow.row with ⟨_, h, _⟩ | ⟨j, e4, hj, _⟩
    · cases h
    · rw [e4]
      have ls := itoa_len ma
      have ls2 := itoa_len mb
      have ls3 := itoa_len mc
      refine (L.join (ss := itoas a b c 3) hj [46] (by simp [itoas]) (by
        show (Lib.join [Lib.itoa a, Lib.itoa b, Lib.itoa c] [46]).length ≤ 100000
        rw [join3]; simp; omega)).mono ?_
      rintro v H2 ⟨rfl, rfl⟩
      have ej : Lib.join (itoas a b c 3) [46] = Lib.itoa a ++ 46 :: (Lib.itoa b ++ 46 :: Lib.itoa c) := join3 _ _ _
      have hs := binEv_sadd (x := [112]) (y := Lib.itoa a ++ 46 :: (Lib.itoa b ++ 46 :: Lib.itoa c)) (by simp; omega)
      simp [ej, hs]
      exact ⟨.inl ⟨ma, mb, mc, rfl⟩, Keeps.ex hrow.keeps⟩
end Go.Proofs.YthcpfmibcoeleaaDoor.Id
