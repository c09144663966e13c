/- Buffers without texts; names alike; how great acts may be. -/
import Derived.Test.YtjncbipaikmogaaDoorBfSeen
namespace Go.Proofs.YtjncbipaikmogaaDoor.Bf
open Go Go.RowKit Am Latt
set_option maxRecDepth 100000
set_option linter.unusedSimpArgs false
set_option linter.unusedVariables false
theorem prb {P : Program} {α β : Type} (s : Sem α) (f : α → Sem β) : pureRun P (s >>= f) = (pureRun P s).bind fun q => pureRun P (f q) := by
  cases h : pureRun P s with
  | some q =>
    cases h2 : pureRun P (f q) with
    | some r => rw [pureRun_bind_mk h h2]; simp [h2]
    | none =>
      cases h3 : pureRun P (s >>= f) with
      | none => simp [h2]
      | some r => obtain ⟨q', h4, h5⟩ := pureRun_bind h3; rw [h] at h4; cases h4; rw [h2] at h5; cases h5
  | none =>
    cases h3 : pureRun P (s >>= f) with
    | none => rfl
    | some r => obtain ⟨q', h4, _⟩ := pureRun_bind h3; rw [h] at h4; cases h4
theorem prp {P : Program} {α : Type} (a : α) : pureRun P (pure a) = some a := rfl
def fieldsP : Array Field := #[⟨"Label", 3, 0, false, "", "", 0⟩, ⟨"N", 3, 1, false, "", "", 8⟩]
theorem underP : Tryd.prog.underlying 53 = some (.struct fieldsP) := by kernel_rfl
theorem underI : Tryd.prog.underlying 3 = some (.int .i64) := by kernel_rfl
theorem guardP : Tryd.prog.eqGuardType Tryd.prog.depth 53 = false := by kernel_rfl
theorem stoodP : Tryd.prog.stoodInHeld 53 = false := by kernel_rfl
theorem partI (cs : Array Value) (k : Nat) (v : Value) (hv : cs[k]? = some v) : pureRun Tryd.prog (part 3 cs k) = some v := by
  unfold part Go.isAgg
  simp only [prb, pureRun_under underI, Option.bind_some, prp, Bool.false_eq_true, if_false, hv]
theorem equalP (a b a' b' : Int) : pureRun Tryd.prog (Op.equal 53 (.agg #[.int .i64 a, .int .i64 b]) (.agg #[.int .i64 a', .int .i64 b'])) = some (decide (a = a' ∧ b = b')) := by
  have q2 : ∀ z w, pureRun Tryd.prog (Op.equalIn 9999 3 (.int .i64 z) (.int .i64 w)) = some (z == w) := fun z w => by
    rw [show (9999 : Nat) = 9998 + 1 from rfl, Op.equalIn]
    simp only [prb, pureRun_under underI, Option.bind_some, if_true, prp]
  have p0 := fun (a b : Int) => partI #[.int .i64 a, .int .i64 b] 0 _ rfl
  have p1 := fun (a b : Int) => partI #[.int .i64 a, .int .i64 b] 1 _ rfl
  unfold Op.equal Op.maxDepth
  rw [show (10000 : Nat) = 9999 + 1 from rfl, Op.equalIn]
  simp only [prb, pureRun_under underP, Option.bind_some, program, pureRun, stoodP, fieldsP]
  by_cases h1 : a = a' <;> by_cases h2 : b = b' <;> simp [prb, prp, p0, p1, q2, pureRun, h1, h2]
theorem eqP (a b a' b' : Int) : eqEv Tryd.prog 53 (.struct fieldsP) (.agg [.int .i64 a, .int .i64 b]) (.agg [.int .i64 a', .int .i64 b']) = some (decide (a = a' ∧ b = b')) := by
  have hc : ∀ a b : Int, conc (.agg [.int .i64 a, .int .i64 b]) = some (.agg #[.int .i64 a, .int .i64 b]) := fun _ _ => rfl
  have hg : pureRun Tryd.prog (eqGuard .eql 53 (.tmp 0) (.tmp 0) (.agg #[.int .i64 a, .int .i64 b]) (.agg #[.int .i64 a', .int .i64 b'])) = some () := by
    unfold eqGuard
    simp only [prb, program, pureRun, Option.bind_some]
    simp [prb, prp, pureRun, guardP, program]
  unfold eqEv
  simp only [hc]
  simp only [prb, hg, Option.bind_some, equalP]
attribute [-simp] Am.binEv Am.intBin Am.read1
attribute [local simp] binEv_lss binEv_leq binEv_gtr binEv_geq binEv_eql binEv_neq binEv_add binEv_sub binEv_mul binEv_shr58 read1_ro read1_mu
variable {R : Ro}
def S0 (n : Nat) : List LB := List.replicate n ⟨[], 0⟩
theorem zeros_get : ∀ (n i : Nat), i < n → (zerosEv [AV.nilslice, .int .i64 0] n)[i * 2]? = some .nilslice ∧ (zerosEv [AV.nilslice, .int .i64 0] n)[i * 2 + 1]? = some (.int .i64 0)
  | 0, i, h => by omega
  | n + 1, 0, h => by simp [zerosEv]
  | n + 1, i + 1, h => by
    have := zeros_get n i (by omega)
    have e1 : (i + 1) * 2 = i * 2 + 1 + 1 := by omega
    have e2 : (i + 1) * 2 + 1 = i * 2 + 1 + 1 + 1 := by omega
    rw [e2, e1]
    simpa [zerosEv] using this
theorem zeros_len2 : ∀ n, (zerosEv [AV.nilslice, .int .i64 0] n).length = n * 2
  | 0 => rfl
  | n + 1 => by simp [zerosEv, zeros_len2 n]; omega
theorem new_ok {H : AH} {l : Nat} {up dn : List Nat} (hL : LatAt R H l up dn) : ACalls Tryd.prog R 10 [.ptr (.mu l) 0] H fun v H' => v = .ptr (.mu (H.length + 1)) 0 ∧ At H' (H.length + 1) l H.length (zerosEv [AV.nilslice, .int .i64 0] up.length) (S0 up.length) (List.replicate up.length .nilslice) ∧ Keeps H H' ∧ ∀ i, Own (H.length + 1) H.length (List.replicate up.length AV.nilslice) i → H.length ≤ i := by
  have hle := hL.le
  have hz : ∀ n, (zerosEv [AV.nilslice, .int .i64 0] n).all AV.oneCell = true := fun n => by
    induction n with
    | zero => rfl
    | succ n ih => simp only [zerosEv, List.all_append, ih]; rfl
  refine ACalls.of_wpE Fns.ok10 (by simp [Fns.a10]) ?_
  simp [Fns.a10]
  refine (len_ok hL).mono ?_
  rintro v H ⟨rfl, rfl⟩
  have h1 : (32 : Int) * (up.length : Int) ≤ 281474976710656 := by omega
  have h2 : (up.length : Int) ≤ 9223372036854775807 := by omega
  simp [h1, h2, fillA, splice]
  refine ⟨⟨?_, ?_, ?_, ?_, ?_, ?_⟩, ?_, ?_⟩
  · simp [S0]
  · simp
  · rw [zeros_len2]; simp [S0]
  · simp [S0]
  · intro i x cv hx hc
    simp only [S0, List.getElem?_replicate] at hx hc
    split at hx
    · rename_i hi
      rw [if_pos hi] at hc
      cases hx; cases hc
      obtain ⟨z1, z2⟩ := zeros_get up.length i hi
      exact ⟨z1, z2, RowAt.nil _ _ _⟩
    · cases hx
  · intro i i' a o n c o' n' c' hi
    rw [List.getElem?_replicate] at hi
    split at hi <;> cases hi
  · exact Keeps.app _ _
  · rintro i (rfl | rfl | ⟨o, n, c, hc⟩)
    · omega
    · omega
    · have := List.eq_of_mem_replicate hc; cases this
abbrev Act := Int × Int × Int × List UInt8
def Act.cells (x : Act) : List AV := [.int .i64 x.1, .int .i64 x.2.1, .int .i64 x.2.2.1, .str x.2.2.2]
theorem acts_of : ∀ {L : List (List AV)}, (∀ x ∈ L, Shape [.int .i64, .int .i64, .int .i64, .str] x) → ∃ A : List Act, L = A.map Act.cells
  | [], _ => ⟨[], rfl⟩
  | x :: L, h => by
    obtain ⟨P, rfl⟩ := acts_of (fun y hy => h y (List.mem_cons_of_mem _ hy))
    obtain ⟨v, r, h1, ⟨z, rfl, _⟩, v2, r2, h2, ⟨z2, rfl, _⟩, v3, r3, h3, ⟨z3, rfl, _⟩, v4, r4, h4, ⟨t, rfl, _⟩, h5⟩ := h x (List.mem_cons_self ..)
    cases (show r4 = [] from h5)
    subst h4 h3 h2 h1
    exact ⟨(z, z2, z3, t) :: P, rfl⟩
def Acts (R : Ro) (a : AV) (A : List Act) : Prop := Sl R 4 a (A.map Act.cells)
theorem Acts.len {a : AV} {A : List Act} (h : Acts R a A) : (a = .nilslice ∧ A.length = 0) ∨ ∃ b off cap, a = .slice (.ro b) off A.length (.known cap) := by
  rcases h with ⟨h, hL⟩ | ⟨b, off, cap, h, _⟩
  · exact .inl ⟨h, by simpa using hL⟩
  · exact .inr ⟨b, off, cap, by simpa using h⟩
theorem Acts.at {a : AV} {A : List Act} (h : Acts R a A) {i : Nat} (hi : i < A.length) : ∃ b off cap, a = .slice (.ro b) off A.length (.known cap) ∧ R b (off + i * 4) = some (.int .i64 A[i].1) ∧ R b (off + i * 4 + 1) = some (.int .i64 A[i].2.1) ∧ R b (off + i * 4 + 2) = some (.int .i64 A[i].2.2.1) ∧ R b (off + i * 4 + 3) = some (.str A[i].2.2.2) := by
  obtain ⟨b, off, cap, ha, hc⟩ := Sl.at h (show i < (A.map Act.cells).length by simpa using hi)
  refine ⟨b, off, cap, by simpa using ha, ?_, ?_, ?_, ?_⟩
  · exact hc 0 _ (by simp [Act.cells])
  · exact hc 1 _ (by simp [Act.cells])
  · exact hc 2 _ (by simp [Act.cells])
  · exact hc 3 _ (by simp [Act.cells])
theorem great_nil (H : AH) {a : AV} {A : List Act} (h : Acts R a A) : ACalls Tryd.prog R 7 [.nilslice, a] H fun v H' => H' = H ∧ ∃ b, v = .bool b ∧ (b = false → A.length ≤ 150) := by
  have hlen := h.len
  refine ACalls.of_wpE Fns.ok7 (by simp [Fns.a7]) ?_
  simp [Fns.a7]
  refine AWp.loop (fun e H' => H' = H ∧ e 0 = .nilslice ∧ e 1 = a ∧ ∃ (i : Nat) (z : Int), e 6 = .int .i64 i ∧ e 5 = .int .i64 z ∧ i ≤ 151) (fun e _ => match e 6 with | .int _ i => (151 - i).toNat | _ => 0) ⟨rfl, rfl, rfl, 0, 0, rfl, rfl, by omega⟩ ?_
  rintro e H' ⟨rfl, h0, h1, i, z, h6, h5, hi⟩
  refine wpE_sound _ ?_
  have hout : ∀ (e : Env), e 0 = .nilslice → e 1 = a → e 5 = .int .i64 z → True := fun _ _ _ _ => trivial
  by_cases hlt : i < A.length ∧ i ≤ 150
  · obtain ⟨b, off, cap, ha', r0, r1, r2, r3⟩ := h.at hlt.1
    have hlt1 := hlt.1
    have hlt' : (i : Int) < (A.length : Int) := by omega
    have hle' : (i : Int) ≤ 150 := by omega
    have hw1 := i64_small ((i : Int) + 1) (by omega) (by omega)
    rw [ha'] at h1
    simp [h0, h1, h6, h5, hlt1, hlt', hle', r3, foldI, hw1]
    exact ⟨⟨by rw [ha'], ⟨i + 1, by simp, by omega⟩⟩, by omega⟩
  · have hend : ∀ (e : Env) (H : AH) (K : Env → AH → Prop), True := fun _ _ _ => trivial
    rcases hlen with ⟨rfl, hA0⟩ | ⟨b, off, cap, rfl⟩
    · have hnl : ¬ (i : Int) < 0 := by omega
      simp [h0, h1, h6, h5, hnl]
      refine AWp.loop (fun e' H'' => H'' = H' ∧ e' 0 = .nilslice ∧ e' 1 = .nilslice ∧ e' 5 = .int .i64 z ∧ e' 7 = .int .i64 0) (fun _ _ => 0) ⟨rfl, by simp [h0], by simp [h1], by simp [h5], by simp⟩ ?_
      rintro e' H'' ⟨rfl, g0, g1, g5, g7⟩
      refine wpE_sound _ ?_
      simp [g0, g1, g5, g7]
      omega
    · have hcase : ¬ ((i : Int) < (A.length : Int)) ∨ ((i : Int) < (A.length : Int) ∧ ¬ (i : Int) ≤ 150) := by omega
      refine (?_ : _ → _) hcase
      rintro (hc1 | ⟨hc1, hc2⟩)
      · have hc1' : ¬ i < A.length := by omega
        have hAl : A.length ≤ 151 := by omega
        simp [h0, h1, h6, h5, hc1, hc1']
        refine AWp.loop (fun e' H'' => H'' = H' ∧ e' 0 = .nilslice ∧ e' 1 = .slice (.ro b) off A.length (.known cap) ∧ e' 5 = .int .i64 z ∧ e' 7 = .int .i64 0) (fun _ _ => 0) ⟨rfl, by simp [h0], by simp [h1], by simp [h5], by simp⟩ ?_
        rintro e' H'' ⟨rfl, g0, g1, g5, g7⟩
        refine wpE_sound _ ?_
        by_cases hb : 150 < A.length
        · have hb' : (150 : Int) < (A.length : Int) := by omega
          simp [g0, g1, g5, g7, hb, hb']
        · have hb' : ¬ (150 : Int) < (A.length : Int) := by omega
          simp [g0, g1, g5, g7, hb, hb']
          omega
      · have hc1' : i < A.length := by omega
        have hc2' : ¬ i ≤ 150 := by omega
        have hb : 150 < A.length := by omega
        have hb' : (150 : Int) < (A.length : Int) := by omega
        simp [h0, h1, h6, h5, hc1, hc1', hc2, hc2']
        refine AWp.loop (fun e' H'' => H'' = H' ∧ e' 0 = .nilslice ∧ e' 1 = .slice (.ro b) off A.length (.known cap) ∧ e' 5 = .int .i64 z ∧ e' 7 = .int .i64 0) (fun _ _ => 0) ⟨rfl, by simp [h0], by simp [h1], by simp [h5], by simp⟩ ?_
        rintro e' H'' ⟨rfl, g0, g1, g5, g7⟩
        refine wpE_sound _ ?_
        simp [g0, g1, g5, g7, hb, hb']
end Go.Proofs.YtjncbipaikmogaaDoor.Bf
