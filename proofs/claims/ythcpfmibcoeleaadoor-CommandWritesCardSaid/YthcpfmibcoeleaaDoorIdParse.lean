/- The words of a name: what the program's code computes. -/
import Derived.Test.YthcpfmibcoeleaaDoorIdText
import Derived.Test.YthcpfmibcoeleaaDoorAmText
import Derived.Test.YthcpfmibcoeleaaDoorTab
import Derived.Test.YthcpfmibcoeleaaDoorAmApp
import Derived.Test.YthcpfmibcoeleaaDoorAmSched
import Derived.Test.YthcpfmibcoeleaaDoorAmBits
import Derived.Test.YthcpfmibcoeleaaDoorAmInts
import Derived.Test.YthcpfmibcoeleaaDoorAmRun3
namespace Go.Proofs.YthcpfmibcoeleaaDoor.Id
open Go Go.RowKit Am
set_option maxRecDepth 100000
set_option linter.unusedSimpArgs false
set_option linter.unusedVariables false
attribute [-simp] Am.binEv Am.intBin Am.read1
attribute [local simp] binEv_lss binEv_leq binEv_gtr binEv_geq binEv_eql binEv_neq binEv_add binEv_sub binEv_mul binEv_shr58 read1_ro read1_mu
variable {R : Ro}
theorem i64_ok (z : Int) (h1 : -4611686018427387904 ≤ z) (h2 : z ≤ 4611686018427387904) : IntKind.i64.wrap z = z :=
  wrap_small .i64 z (by simp only [mx]; omega) (by simp only [neg?, mx, if_true]; omega)
theorem binEv_sadd {x y : List UInt8} (h : x.length + y.length ≤ 9223372036854775807) : binEv .add (.str x) (.str y) = some (.str (x ++ y)) := by simp [binEv, strBin, h]
theorem binEv_seql (x y : List UInt8) : binEv .eql (.str x) (.str y) = some (.bool (decide (x = y))) := by simp [binEv, strBin]; by_cases h : x = y <;> simp [h]
theorem binEv_sneq (x y : List UInt8) : binEv .neq (.str x) (.str y) = some (.bool (!decide (x = y))) := by simp [binEv, strBin]; by_cases h : x = y <;> simp [h]
/-- What the library answers. -/
structure Lb (R : Ro) : Prop where
  itoa : ∀ (n : Int) (H : AH), -9223372036854775808 ≤ n → n ≤ 9223372036854775807 → ACalls Tryd.prog R 29 [.int .i64 n] H fun v H' => v = .str (Lib.itoa n) ∧ H' = H
  join : ∀ {H : AH} {i : Nat} {ss : List (List UInt8)} {t : TypeId}, H[i]? = some (.row (ss.map AV.str) t 1) → ∀ sep : List UInt8, ss.length ≤ 100000 → (Lib.join ss sep).length ≤ 100000 →
    ACalls Tryd.prog R 41 [.slice (.mu i) 0 ss.length (.opn 0), .str sep] H fun v H' => v = .str (Lib.join ss sep) ∧ H' = H
  split : ∀ (s sep : List UInt8) (H : AH), s.length ≤ 10000 → 1 ≤ sep.length → ACalls Tryd.prog R 45 [.str s, .str sep] H fun v H' =>
    v = .slice (.mu H.length) 0 (Lib.count s sep + 1) (.known (Lib.count s sep + 1)) ∧ ∃ t, H' = H ++ [.cells ((Lib.splitK sep 0 (Lib.count s sep) s).map AV.str) t]
  atoi : ∀ (s : List UInt8) (H : AH), s.length ≤ 10000 → ACalls Tryd.prog R 43 [.str s] H fun v H' => ∃ z y E, v = .tuple [.int .i64 z, y] ∧ H' = H ++ E ∧ (∀ z', Lib.atoiAll s = .ok z' → z = z' ∧ y = .niface) ∧ ((∀ z', Lib.atoiAll s ≠ .ok z') → ∃ t p, y = .iface t p)
theorem Keeps.ex {A B : AH} (h : Keeps A B) : ∃ E, B = A ++ E := ⟨B.drop A.length, by
  apply List.ext_getElem?
  intro i
  by_cases hi : i < A.length
  · rw [h.2 i hi, List.getElem?_append_left hi]
  · rw [List.getElem?_append_right (by omega), List.getElem?_drop]
    congr 1
    omega⟩
theorem mayDec (n : Int) : (mayI n) ∨ ¬ mayI n := by unfold mayI; omega
/-- The three numbers, in their places. -/
def nth3 (a b c : Int) (i : Nat) : Int := if i = 0 then a else if i = 1 then b else c
theorem nth3_may {a b c : Int} (i : Nat) (ha : mayI a) (hb : mayI b) (hc : mayI c) : mayI (nth3 a b c i) := by
  unfold nth3
  split
  · exact ha
  · split
    · exact hb
    · exact hc
def itoas (a b c : Int) (i : Nat) : List (List UInt8) := [Lib.itoa a, Lib.itoa b, Lib.itoa c].take i
theorem dec_len : ∀ (k u : Nat), u < 10 ^ k → (Lib.decDigits u).length ≤ k + 1
  | 0, u, h => by rw [dec_small (by simp at h; omega)]; simp
  | k + 1, u, h => by
    by_cases hs : u < 10
    · rw [dec_small hs]; simp
    · rw [dec_big hs, List.length_append, List.length_singleton]
      have := dec_len k (u / 10) (by rw [Nat.pow_succ] at h; omega)
      omega
theorem itoa_len {n : Int} (h : mayI n) : (Lib.itoa n).length ≤ 11 := by
  rw [itoa_pos h.1]
  exact dec_len 10 _ (by have := h.2; have := h.1; omega)
theorem join3 (x y z : List UInt8) : Lib.join [x, y, z] [46] = x ++ 46 :: (y ++ 46 :: z) := by
  rw [Lib.join_cons]
  simp [Lib.joinTail]
def wordsP (a b c : Int) (v : AV) : Prop := (mayI a ∧ mayI b ∧ mayI c ∧ v = .tuple [.str (wordsF a b c), .bool true]) ∨ (¬ (mayI a ∧ mayI b ∧ mayI c) ∧ v = .tuple [.str [], .bool false])
set_option maxHeartbeats 4000000 in
theorem words (L : Lb R) (a b c : Int) (H : AH) : ACalls Tryd.prog R 30 [.agg [.int .i64 a, .int .i64 b, .int .i64 c]] H fun v H' => wordsP a b c v ∧ ∃ E, H' = H ++ E := by
  refine ACalls.of_wpE Fns.ok30 (by simp [Fns.a30]) ?_
  simp [Fns.a30, fillA, splice, zerosEv, AV.oneCell]
  refine AWp.loop (fun e H1 => e 13 = .agg [.int .i64 a, .int .i64 b, .int .i64 c] ∧ ∃ i : Nat, e 14 = .int .i64 i ∧ i ≤ 3 ∧ (0 < i → mayI a) ∧ (1 < i → mayI b) ∧ (2 < i → mayI c) ∧ RowOwn H H1 (e 4) i 1 9 ((itoas a b c i).map AV.str))
    (fun e _ => match e 14 with | .int _ i => ((3 : Int) - i).toNat | _ => 0) ⟨by simp, 0, by simp, by omega, by omega, by omega, by omega, by simpa [itoas] using (RowOwn.nil H 1 9).more (Keeps.app H _)⟩ ?_
  rintro e H1 ⟨h13, i, h14, hi, ma, mb, mc, hrow⟩
  refine wpE_sound _ ?_
  by_cases hl : i < 3
  · have hl' : (i : Int) < 3 := by omega
    have hw1 : IntKind.i64.wrap ((i : Int) + 1) = (i : Int) + 1 := i64_ok _ (by omega) (by omega)
    obtain ⟨n, hn⟩ : ∃ n, nth3 a b c i = n := ⟨_, rfl⟩
    have hget : [AV.int .i64 a, .int .i64 b, .int .i64 c][i]? = some (.int .i64 n) := by
      rw [← hn]
      obtain rfl | rfl | rfl : i = 0 ∨ i = 1 ∨ i = 2 := by omega
      · rfl
      · rfl
      · rfl
    have hget' : ∀ h, [AV.int .i64 a, .int .i64 b, .int .i64 c][i]'h = .int .i64 n := fun h => by rw [List.getElem?_eq_getElem h] at hget; exact Option.some.inj hget
    simp [h13, h14, hl, hl', hget']
    by_cases h0 : n < 0
    · have hno : ¬ (mayI a ∧ mayI b ∧ mayI c) := by
        rintro ⟨h1, h2, h3⟩
        have := nth3_may i h1 h2 h3
        rw [hn] at this
        unfold mayI at this
        omega
      simp [h0]
      exact ⟨.inr ⟨hno, rfl⟩, Keeps.ex hrow.keeps⟩
    · by_cases h1 : n > 2147483647
      · have hno : ¬ (mayI a ∧ mayI b ∧ mayI c) := by
          rintro ⟨h1, h2, h3⟩
          have := nth3_may i h1 h2 h3
          rw [hn] at this
          unfold mayI at this
          omega
        have h1' : 2147483647 < n := h1
        simp [h0, h1, h1']
        exact ⟨.inr ⟨hno, rfl⟩, Keeps.ex hrow.keeps⟩
      · have h1' : ¬ 2147483647 < n := h1
        have h1'' : n ≤ 2147483647 := by omega
        have h0' : 0 ≤ n := by omega
        have hm : mayI n := ⟨h0', h1''⟩
        simp [h0, h1, h1', h1'', h0']
        refine (L.itoa n _ (by omega) (by omega)).mono ?_
        rintro v H2 ⟨rfl, rfl⟩
        obtain ⟨G, hG, hrow2, _, _⟩ := hrow.push (R := R) (by' := 16) (t' := 9) (new := [.str (Lib.itoa n)]) (by omega) (by omega) (by omega) (by simp [AV.oneCell]) rfl (.known 1)
        simp [h0, h13, h14, hw1, hG, fillA, splice, zerosEv, AV.oneCell]
        refine ⟨⟨i + 1, by simp, by omega, ?_, ?_, ?_, ?_⟩, by omega⟩
        · intro _
          by_cases hz : i = 0
          · subst hz; simp [nth3] at hn; rw [hn]; exact hm
          · exact ma (by omega)
        · intro hz
          by_cases hz : i = 1
          · subst hz; simp [nth3] at hn; rw [hn]; exact hm
          · exact mb (by omega)
        · intro hz
          have : i = 2 := by omega
          subst this; simp [nth3] at hn; rw [hn]; exact hm
        · have e : (itoas a b c (i + 1)).map AV.str = (itoas a b c i).map AV.str ++ [.str (Lib.itoa n)] := by
            rw [← hn]
            obtain rfl | rfl | rfl : i = 0 ∨ i = 1 ∨ i = 2 := by omega
            · rfl
            · rfl
            · rfl
          rw [e]
          exact hrow2
  · obtain rfl : i = 3 := by omega
    have ma := ma (by omega)
    have mb := mb (by omega)
    have mc := mc (by omega)
    simp [h13, h14]
    rcases hrow.row with ⟨_, h, _⟩ | ⟨j, e4, hj, _⟩
    · cases h
    · rw [e4]
      have ls := itoa_len ma
      have ls2 := itoa_len mb
      have ls3 := itoa_len mc
      refine (L.join (ss := itoas a b c 3) hj [46] (by simp [itoas]) (by
        show (Lib.join [Lib.itoa a, Lib.itoa b, Lib.itoa c] [46]).length ≤ 100000
        rw [join3]; simp; omega)).mono ?_
      rintro v H2 ⟨rfl, rfl⟩
      have ej : Lib.join (itoas a b c 3) [46] = Lib.itoa a ++ 46 :: (Lib.itoa b ++ 46 :: Lib.itoa c) := join3 _ _ _
      have hs := binEv_sadd (x := [112]) (y := Lib.itoa a ++ 46 :: (Lib.itoa b ++ 46 :: Lib.itoa c)) (by simp; omega)
      simp [ej, hs]
      exact ⟨.inl ⟨ma, mb, mc, rfl⟩, Keeps.ex hrow.keeps⟩
end Go.Proofs.YthcpfmibcoeleaaDoor.Id
namespace Go.Proofs.YthcpfmibcoeleaaDoor.Id
open Go Go.RowKit Am
set_option maxRecDepth 100000
set_option linter.unusedSimpArgs false
set_option linter.unusedVariables false
attribute [-simp] Am.binEv Am.intBin Am.read1
attribute [local simp] binEv_lss binEv_leq binEv_gtr binEv_geq binEv_eql binEv_neq binEv_add binEv_sub binEv_mul binEv_shr58 read1_ro read1_mu binEv_seql binEv_sneq
variable {R : Ro}
theorem splitK_sub (sep : List UInt8) : ∀ (k : Nat) (s x : List UInt8), x ∈ Lib.splitK sep 0 k s → x.length ≤ s.length
  | 0, s, x, h => by simp [Lib.splitK] at h; rw [h]; exact Nat.le_refl _
  | k + 1, s, x, h => by
    unfold Lib.splitK at h
    split at h
    · simp at h; rw [h]; exact Nat.le_refl _
    · rcases List.mem_cons.1 h with rfl | h
      · rw [List.length_take]; omega
      · have := splitK_sub sep k _ x h
        rw [List.length_drop] at this
        omega
theorem splitK_len (s sep : List UInt8) (h : 1 ≤ sep.length) : (Lib.splitK sep 0 (Lib.count s sep) s).length = Lib.count s sep + 1 := by
  have h1 := Lib.splitB_all ⟨⟨sep⟩⟩ h 0 (Lib.count s sep) ⟨⟨s⟩⟩ rfl
  have h2 := Lib.splitB_data ⟨⟨sep⟩⟩ 0 (Lib.count s sep) ⟨⟨s⟩⟩
  rw [← h1]
  have h3 := congrArg List.length h2
  simpa using h3.symm
/-- A text's head, if it is a 'p', and what is behind it. -/
theorem hasP (s : List UInt8) (H : AH) : ACalls Tryd.prog R 74 [.str s, .str [112]] H fun v H' => H' = H ∧ v = .bool (decide (s.head? = some 112)) := by
  refine ACalls.of_wpE Fns.ok74 (by simp [Fns.a74]) ?_
  cases s with
  | nil => simp [Fns.a74]
  | cons c r =>
    have h1 : (1 : Int) ≤ (r.length : Int) + 1 := by omega
    have h2 : 1 ≤ r.length + 1 := by omega
    have h3 : (0 : Int) ≤ (r.length : Int) + 1 := by omega
    simp [Fns.a74, boundEv, h1, h2, h3]
theorem cutP2 (s : List UInt8) (H : AH) : ACalls Tryd.prog R 58 [.str s, .str [112]] H fun v H' => H' = H ∧ v = if s.head? = some 112 then .tuple [.str s.tail, .bool true] else .tuple [.str s, .bool false] := by
  refine ACalls.of_wpE Fns.ok58 (by simp [Fns.a58]) ?_
  simp [Fns.a58]
  refine (hasP _ _).mono ?_
  rintro v H' ⟨rfl, rfl⟩
  cases s with
  | nil => simp
  | cons c r =>
    by_cases hc : c = 112
    · subst hc
      have h1 : (1 : Int) ≤ (r.length : Int) + 1 := by omega
      simp [boundEv, h1]
    · simp [hc]
theorem cutP (s : List UInt8) (H : AH) : ACalls Tryd.prog R 44 [.str s, .str [112]] H fun v H' => H' = H ∧ v = if s.head? = some 112 then .tuple [.str s.tail, .bool true] else .tuple [.str s, .bool false] := by
  refine ACalls.of_wpE Fns.ok44 (by simp [Fns.a44]) ?_
  simp [Fns.a44]
  refine (cutP2 _ _).mono ?_
  rintro v H' ⟨rfl, rfl⟩
  split <;> simp
def parseP (s : List UInt8) (v : AV) : Prop := (∃ a b c, mayI a ∧ mayI b ∧ mayI c ∧ s = wordsF a b c ∧ v = .tuple [.agg [.int .i64 a, .int .i64 b, .int .i64 c], .bool true]) ∨
  ((∀ a b c, mayI a → mayI b → mayI c → s ≠ wordsF a b c) ∧ v = .tuple [.agg [.int .i64 0, .int .i64 0, .int .i64 0], .bool false])
/-- Of three texts: what was read of the first ones. -/
def okAt (x : List UInt8) (z : Int) : Prop := ∀ z', Lib.atoiAll x = .ok z' → z = z'
theorem words_shape {a b c : Int} {s : List UInt8} (ha : mayI a) (hb : mayI b) (hc : mayI c) (h : s = wordsF a b c) : s.head? = some 112 ∧ Lib.count s.tail [46] = 2 ∧ Lib.splitK [46] 0 2 s.tail = [Lib.itoa a, Lib.itoa b, Lib.itoa c] := by
  subst h
  refine ⟨rfl, ?_, ?_⟩
  · exact count3 (digit_ne (itoa_digit ha.1)) (digit_ne (itoa_digit hb.1)) (digit_ne (itoa_digit hc.1))
  · exact split3 (digit_ne (itoa_digit ha.1)) (digit_ne (itoa_digit hb.1))
set_option maxHeartbeats 4000000 in
theorem parse (L : Lb R) (s : List UInt8) (hs : s.length ≤ 2100) (H : AH) : ACalls Tryd.prog R 38 [.str s] H fun v H' => parseP s v ∧ ∃ E, H' = H ++ E := by
  refine ACalls.of_wpE Fns.ok38 (by simp [Fns.a38]) ?_
  simp [Fns.a38, AV.oneCell]
  refine (cutP _ _).mono ?_
  rintro v H' ⟨rfl, rfl⟩
  obtain ⟨r, hr⟩ : ∃ r, r = if s.head? = some 112 then s.tail else s := ⟨_, rfl⟩
  obtain ⟨ok, hok⟩ : ∃ b : Bool, b = decide (s.head? = some 112) := ⟨_, rfl⟩
  have hv : (if s.head? = some 112 then AV.tuple [.str s.tail, .bool true] else .tuple [.str s, .bool false]) = .tuple [.str r, .bool ok] := by
    rw [hr, hok]; by_cases h : s.head? = some 112 <;> simp [h]
  rw [hv]
  have hrl : r.length ≤ 2100 := by
    rw [hr]
    split
    · rw [List.length_tail]; omega
    · exact hs
  simp
  refine (L.split r [46] _ (by omega) (Nat.le_refl 1)).mono ?_
  rintro v H' ⟨rfl, t, rfl⟩
  have hlen := splitK_len r [46] (by simp)
  simp
  by_cases hgood : ok = true ∧ Lib.count r [46] = 2
  · obtain ⟨hg1, hg2⟩ := hgood
    have hhead : s.head? = some 112 := by rw [hg1] at hok; simpa using hok.symm
    have hr' : r = s.tail := by rw [hr, if_pos hhead]
    rw [hg2] at hlen
    obtain ⟨x, y, z, hL⟩ : ∃ x y z, Lib.splitK [46] 0 2 r = [x, y, z] := by
      match hq : Lib.splitK [46] 0 2 r, hlen with
      | [x, y, z], _ => exact ⟨x, y, z, rfl⟩
    have hsub := splitK_sub [46] 2 r
    rw [hL] at hsub
    have hx := hsub x (by simp)
    have hy := hsub y (by simp)
    have hz := hsub z (by simp)
    simp [hg1, hg2, hL]
    obtain ⟨H0, hH0⟩ : ∃ H0 : AH, H0 = H ++ [.cells [.int .i64 0, .int .i64 0, .int .i64 0] 25, .cells [.str x, .str y, .str z] t] := ⟨_, rfl⟩
    refine AWp.loop (fun e H1 => e 0 = .str s ∧ e 2 = .ptr (.mu H.length) 0 ∧ e 6 = .slice (.mu (H.length + 1)) 0 3 (.known 3) ∧ e 7 = .ptr (.mu (H.length + 2)) 0 ∧ Keeps H0 H1 ∧ H.length + 3 ≤ H1.length ∧
        ∃ (i : Nat) (a b c : Int) (t3 : TypeId), e 27 = .int .i64 i ∧ i ≤ 3 ∧ H1[H.length + 2]? = some (.cells [.int .i64 a, .int .i64 b, .int .i64 c] t3) ∧ (0 < i → okAt x a) ∧ (1 < i → okAt y b) ∧ (2 < i → okAt z c))
      (fun e _ => match e 27 with | .int _ i => ((3 : Int) - i).toNat | _ => 0) ⟨by simp, by simp, by simp, by simp, by rw [hH0]; refine ⟨by simp, fun i hi => ?_⟩; simp at hi; rw [show H ++ [AO.cells [.int .i64 0, .int .i64 0, .int .i64 0] 25, .cells [.str x, .str y, .str z] t, .cells [.int .i64 0, .int .i64 0, .int .i64 0] 71] = (H ++ [.cells [.int .i64 0, .int .i64 0, .int .i64 0] 25, .cells [.str x, .str y, .str z] t]) ++ [.cells [.int .i64 0, .int .i64 0, .int .i64 0] 71] by simp, List.getElem?_append_left (by simpa using hi)], by simp, 0, 0, 0, 0, 71, by simp, by omega, by simp, by omega, by omega, by omega⟩ ?_
    rintro e H1 ⟨h0, h2, h6, h7, hk, hlen1, i, a, b, c, t3, h27, hi, ho, ka, kb, kc⟩
    refine wpE_sound _ ?_
    have hsp : H1[H.length + 1]? = some (.cells [.str x, .str y, .str z] t) := by rw [hk.2 _ (by rw [hH0]; simp), hH0]; simp
    have hcell : H1[H.length]? = some (.cells [.int .i64 0, .int .i64 0, .int .i64 0] 25) := by rw [hk.2 _ (by rw [hH0]; simp), hH0]; simp
    by_cases hl : i < 3
    · have hl' : (i : Int) < 3 := by omega
      have hw1 : IntKind.i64.wrap ((i : Int) + 1) = (i : Int) + 1 := i64_ok _ (by omega) (by omega)
      obtain ⟨q, hq⟩ : ∃ q, q = if i = 0 then x else if i = 1 then y else z := ⟨_, rfl⟩
      have hql : q.length ≤ 10000 := by rw [hq]; (repeat' split) <;> omega
      have hget : [AV.str x, .str y, .str z][i]? = some (.str q) := by
        rw [hq]
        obtain rfl | rfl | rfl : i = 0 ∨ i = 1 ∨ i = 2 := by omega
        · rfl
        · rfl
        · rfl
      have hget' : ∀ h, [AV.str x, .str y, .str z][i]'h = .str q := fun h => by rw [List.getElem?_eq_getElem h] at hget; exact Option.some.inj hget
      simp [h0, h2, h6, h7, h27, hl, hl', hsp, hget']
      refine (L.atoi q _ hql).mono ?_
      rintro v H2 ⟨w, y', E, rfl, rfl, hw, _⟩
      have hwr := writeN_cell (H := H1 ++ E) (p := H.length + 2) (c := [.int .i64 a, .int .i64 b, .int .i64 c]) (t := t3) (by rw [List.getElem?_append_left (by omega)]; exact ho) (i := i) (by simpa using hl) (.int .i64 w) rfl
      have ho2 : (H1 ++ E)[H.length + 2]? = some (.cells [.int .i64 a, .int .i64 b, .int .i64 c] t3) := by rw [List.getElem?_append_left (by omega)]; exact ho
      simp [h0, h2, h6, h7, h27, hl, hl', hw1, hwr]
      have hkE : Keeps H1 (H1 ++ E) := Keeps.app _ _
      refine ⟨⟨(hk.trans hkE).set (by rw [hH0]; simp) _, by omega, i + 1, ?_⟩, by omega⟩
      obtain rfl | rfl | rfl : i = 0 ∨ i = 1 ∨ i = 2 := by omega
      · have hq' : q = x := hq
        exact ⟨by omega, by omega, w, b, c, ⟨t3, by rw [List.getElem?_set, if_pos rfl, if_pos (by rw [List.length_append]; omega)]; rfl⟩, fun _ z' hz => (hw z' (by rw [hq']; exact hz)).1, by omega, by omega⟩
      · have hq' : q = y := hq
        exact ⟨by omega, by omega, a, w, c, ⟨t3, by rw [List.getElem?_set, if_pos rfl, if_pos (by rw [List.length_append]; omega)]; rfl⟩, fun _ => ka (by omega), fun _ z' hz => (hw z' (by rw [hq']; exact hz)).1, by omega⟩
      · have hq' : q = z := hq
        exact ⟨by omega, by omega, a, b, w, ⟨t3, by rw [List.getElem?_set, if_pos rfl, if_pos (by rw [List.length_append]; omega)]; rfl⟩, fun _ => ka (by omega), fun _ => kb (by omega), fun _ z' hz => (hw z' (by rw [hq']; exact hz)).1⟩
    · obtain rfl : i = 3 := by omega
      have hwl := writeN_last0 H1 (old := [.int .i64 0, .int .i64 0, .int .i64 0]) (new := [.int .i64 a, .int .i64 b, .int .i64 c]) 25 rfl rfl
      simp [h0, h2, h6, h7, h27, ho, fillA, splice, AV.oneCell, hwl]
      refine (words L a b c _).mono ?_
      rintro v H2 ⟨hv2, E, hH2⟩
      have hKH : Keeps H H2 := by
        rw [hH2]
        refine ((Keeps.trans (B := H0) (by rw [hH0]; exact Keeps.app _ _) hk).trans (Keeps.app H1 _)).trans (Keeps.app _ E)
      have hGc : H2[H.length]? = some (.cells [.int .i64 0, .int .i64 0, .int .i64 0] 25) := by
        rw [hH2, List.append_assoc, List.getElem?_append_left (by omega)]; exact hcell
      have hG9 : H2[H1.length]? = some (.cells [.int .i64 a, .int .i64 b, .int .i64 c] 25) := by rw [hH2]; simp
      have hwz := writeN_whole hGc (new := [.int .i64 0, .int .i64 0, .int .i64 0]) rfl rfl
      have hwg := writeN_whole hGc (new := [.int .i64 a, .int .i64 b, .int .i64 c]) rfl rfl
      have hll : H.length < H2.length := (List.getElem?_eq_some_iff.1 hGc).1
      have hex : ∀ o, ∃ E, H2.set H.length o = H ++ E := fun o => Keeps.ex (hKH.set (Nat.le_refl _) o)
      have key : ∀ a' b' c', mayI a' → mayI b' → mayI c' → s = wordsF a' b' c' → a = a' ∧ b = b' ∧ c = c' := by
        intro a' b' c' ha hb hc h
        obtain ⟨_, _, h3⟩ := words_shape ha hb hc h
        rw [← hr', hL] at h3
        injection h3 with e1 h3
        injection h3 with e2 h3
        injection h3 with e3 h3
        exact ⟨ka (by omega) _ (by rw [e1]; exact atoi_itoa ha), kb (by omega) _ (by rw [e2]; exact atoi_itoa hb), kc (by omega) _ (by rw [e3]; exact atoi_itoa hc)⟩
      rcases hv2 with ⟨ha, hb, hc, rfl⟩ | ⟨hn, rfl⟩
      · by_cases hw : wordsF a b c = s
        · simp [h0, h2, hw, hG9, hGc, hwg, hll]
          exact ⟨.inl ⟨a, b, c, ha, hb, hc, hw.symm, rfl⟩, hex _⟩
        · simp [h0, h2, hw, hG9, hGc, hwz, hll, fillA, splice]
          exact ⟨.inr ⟨fun a' b' c' ha' hb' hc' h => (by obtain ⟨e1, e2, e3⟩ := key a' b' c' ha' hb' hc' h; subst e1 e2 e3; exact hw h.symm), rfl⟩, hex _⟩
      · simp [h0, h2, hG9, hGc, hwz, hll, fillA, splice]
        exact ⟨.inr ⟨fun a' b' c' ha' hb' hc' h => (by obtain ⟨e1, e2, e3⟩ := key a' b' c' ha' hb' hc' h; subst e1 e2 e3; exact hn ⟨ha', hb', hc'⟩), rfl⟩, hex _⟩
  · have hno : ∀ a b c, mayI a → mayI b → mayI c → s ≠ wordsF a b c := by
      intro a b c ha hb hc h
      obtain ⟨h1, h2, h3⟩ := words_shape ha hb hc h
      exact hgood ⟨by rw [hok, h1]; rfl, by rw [hr, if_pos h1]; exact h2⟩
    obtain ⟨H2, hH2⟩ : ∃ H2, H2 = H ++ [AO.cells [.int .i64 0, .int .i64 0, .int .i64 0] 25, .cells ((Lib.splitK [46] 0 (Lib.count r [46]) r).map AV.str) t, .cells [.int .i64 0, .int .i64 0, .int .i64 0] 71] := ⟨_, rfl⟩
    have hGc : H2[H.length]? = some (.cells [.int .i64 0, .int .i64 0, .int .i64 0] 25) := by rw [hH2]; simp
    have hwz := writeN_whole hGc (new := [.int .i64 0, .int .i64 0, .int .i64 0]) rfl rfl
    have hll : H.length < H2.length := (List.getElem?_eq_some_iff.1 hGc).1
    have hex : ∀ o, ∃ E, H2.set H.length o = H ++ E := fun o => Keeps.ex (Keeps.set (by rw [hH2]; exact Keeps.app _ _) (Nat.le_refl _) o)
    rw [← hH2]
    cases hk : ok with
    | false =>
      simp [fillA, splice, hwz, hGc, hll]
      exact ⟨.inr ⟨hno, rfl⟩, hex _⟩
    | true =>
      have hc : ¬ Lib.count r [46] = 2 := fun h => hgood ⟨hk, h⟩
      have hc' : ¬ ((Lib.count r [46] : Int) + 1 = 3) := by omega
      simp [hc, hc', fillA, splice, hwz, hGc, hll]
      exact ⟨.inr ⟨hno, rfl⟩, hex _⟩
end Go.Proofs.YthcpfmibcoeleaaDoor.Id
