/- Buffers, as they lie there; what only looks at them. -/
import Derived.Test.YtjncbipaikmogaaDoorCtrs
import Derived.Test.YtjncbipaikmogaaDoorLatGood
import Derived.Test.YtjncbipaikmogaaDoorLatLook
import Derived.Test.YtjncbipaikmogaaDoorLatDown
import Derived.Test.YtjncbipaikmogaaDoorAmApp
import Derived.Test.YtjncbipaikmogaaDoorAmFlat
import Derived.Test.YtjncbipaikmogaaDoorAmInts
import Derived.Test.YtjncbipaikmogaaDoorAmSched
namespace Go.Proofs.YtjncbipaikmogaaDoor.Bf
open Go Go.RowKit Am Latt
set_option maxRecDepth 100000
set_option linter.unusedSimpArgs false
set_option linter.unusedVariables false
attribute [-simp] Am.binEv Am.intBin Am.read1
attribute [local simp] binEv_lss binEv_leq binEv_gtr binEv_geq binEv_eql binEv_neq binEv_add binEv_sub binEv_mul binEv_shr58 read1_ro read1_mu
variable {R : Ro}
abbrev TX := Int × List UInt8
structure LB where
  l : List TX
  given : Int
def txt : List TX → List AV
  | [] => []
  | p :: l => .int .i64 p.1 :: .str p.2 :: txt l
theorem txt_len : ∀ l, (txt l).length = l.length * 2
  | [] => rfl
  | p :: l => by simp [txt, txt_len l]; omega
theorem txt_get : ∀ (l : List TX) (i : Nat) (p : TX), l[i]? = some p → (txt l)[i * 2]? = some (.int .i64 p.1) ∧ (txt l)[i * 2 + 1]? = some (.str p.2)
  | [], i, p, h => by simp at h
  | q :: l, 0, p, h => by simp at h; subst h; simp [txt]
  | q :: l, i + 1, p, h => by
    have := txt_get l i p (by simpa using h)
    have e1 : (i + 1) * 2 = i * 2 + 1 + 1 := by omega
    have e2 : (i + 1) * 2 + 1 = i * 2 + 1 + 1 + 1 := by omega
    rw [e2, e1]
    exact this
theorem txt_one : ∀ l, (txt l).all AV.oneCell = true
  | [] => rfl
  | p :: l => by simp only [txt, List.all_cons, txt_one l]; rfl
theorem txt_take : ∀ (l : List TX) (i : Nat), (txt l).take (i * 2) = txt (l.take i)
  | [], i => by simp [txt]
  | p :: l, 0 => by simp [txt]
  | p :: l, i + 1 => by
    have e1 : (i + 1) * 2 = i * 2 + 1 + 1 := by omega
    rw [e1]; simp [txt, txt_take l i]
theorem txt_drop : ∀ (l : List TX) (i : Nat), (txt l).drop (i * 2) = txt (l.drop i)
  | [], i => by simp [txt]
  | p :: l, 0 => by simp [txt]
  | p :: l, i + 1 => by
    have e1 : (i + 1) * 2 = i * 2 + 1 + 1 := by omega
    rw [e1]; simp [txt, txt_drop l i]
theorem txt_app : ∀ (l m : List TX), txt l ++ txt m = txt (l ++ m)
  | [], m => rfl
  | p :: l, m => by simp [txt, txt_app l m]
/-- Where a number stands at first. -/
def fi : List TX → Int → Option Nat
  | [], _ => none
  | p :: l, n => if p.1 = n then some 0 else (fi l n).map (· + 1)
def fv : Option Nat → Int
  | none => -1
  | some k => k
theorem fi_none : ∀ {l : List TX} {n : Int}, (∀ p ∈ l, p.1 ≠ n) → fi l n = none
  | [], _, _ => rfl
  | p :: l, n, h => by
    rw [fi, if_neg (h p (List.mem_cons_self ..)), fi_none fun q hq => h q (List.mem_cons_of_mem _ hq)]; rfl
theorem fi_some : ∀ {l : List TX} {n : Int} {k : Nat} {p : TX}, l[k]? = some p → p.1 = n → (∀ j, j < k → ∀ q, l[j]? = some q → q.1 ≠ n) → fi l n = some k
  | [], _, _, _, h, _, _ => by simp at h
  | q :: l, n, 0, p, h, hp, _ => by simp at h; subst h; rw [fi, if_pos hp]
  | q :: l, n, k + 1, p, h, hp, hj => by
    rw [fi, if_neg (hj 0 (by omega) q rfl), fi_some (l := l) (k := k) (p := p) (by simpa using h) hp fun j hjk r hr => hj (j + 1) (by omega) r (by simpa using hr)]; rfl
theorem fi_get : ∀ {l : List TX} {n : Int} {k : Nat}, fi l n = some k → ∃ p, l[k]? = some p ∧ p.1 = n
  | [], _, _, h => by cases h
  | q :: l, n, k, h => by
    rw [fi] at h
    split at h
    · cases h; exact ⟨q, rfl, ‹_›⟩
    · simp only [Option.map_eq_some_iff] at h
      obtain ⟨j, hj, rfl⟩ := h
      obtain ⟨p, h1, h2⟩ := fi_get hj
      exact ⟨p, by simpa using h1, h2⟩
theorem fi_not : ∀ {l : List TX} {n : Int}, fi l n = none → ∀ p ∈ l, p.1 ≠ n
  | [], _, _, p, hp => by cases hp
  | q :: l, n, h, p, hp => by
    rw [fi] at h
    split at h
    · cases h
    · simp only [Option.map_eq_none_iff] at h
      rcases List.mem_cons.1 hp with rfl | hp
      · assumption
      · exact fi_not h p hp
/-- All. -/
structure At (H : AH) (b l r : Nat) (C : List AV) (S : List LB) (cs : List AV) : Prop where
  box : H[b]? = some (.cells [.ptr (.mu l) 0, .slice (.mu r) 0 S.length (.known S.length)] 82)
  row : H[r]? = some (.cells C 87)
  cl : C.length = S.length * 2
  lc : cs.length = S.length
  one : ∀ (i : Nat) x cv, S[i]? = some x → cs[i]? = some cv → C[i * 2]? = some cv ∧ C[i * 2 + 1]? = some (.int .i64 x.given) ∧ RowAt H cv x.l.length 2 90 (txt x.l)
  csd : ∀ (i i' a : Nat) o n c o' n' c', cs[i]? = some (.slice (.mu a) o n c) → cs[i']? = some (.slice (.mu a) o' n' c') → i = i'
def Own (b r : Nat) (cs : List AV) (i : Nat) : Prop := i = b ∨ i = r ∨ ∃ o n c, AV.slice (.mu i) o n c ∈ cs
theorem At.frame {H H' : AH} {b l r : Nat} {C : List AV} {S : List LB} {cs : List AV} (h : At H b l r C S cs) (hf : ∀ i, Own b r cs i → H'[i]? = H[i]?) : At H' b l r C S cs := by
  refine ⟨by rw [hf b (.inl rfl)]; exact h.box, by rw [hf r (.inr (.inl rfl))]; exact h.row, h.cl, h.lc, fun i x cv hx hc => ?_, h.csd⟩
  obtain ⟨o1, o2, o3⟩ := h.one i x cv hx hc
  exact ⟨o1, o2, o3.frame fun j hj => hf j (.inr (.inr ⟨_, _, _, by rw [← hj]; exact List.mem_of_getElem? hc⟩))⟩
theorem At.kind {H : AH} {b l r : Nat} {C : List AV} {S : List LB} {cs : List AV} (h : At H b l r C S cs) {i : Nat} (hi : Own b r cs i) : (∃ c, H[i]? = some (.cells c 82)) ∨ (∃ c, H[i]? = some (.cells c 87)) ∨ ∃ c, H[i]? = some (.row c 90 2) := by
  rcases hi with rfl | rfl | ⟨o, n, c, hc⟩
  · exact .inl ⟨_, h.box⟩
  · exact .inr (.inl ⟨_, h.row⟩)
  · obtain ⟨k, hk, hk2⟩ := List.mem_iff_getElem.1 hc
    have hks : k < S.length := by rw [← h.lc]; exact hk
    obtain ⟨_, _, o3⟩ := h.one k _ _ (List.getElem?_eq_getElem hks) (List.getElem?_eq_getElem hk)
    rw [hk2] at o3
    rcases o3 with ⟨e, _⟩ | ⟨j, e, hj, _⟩
    · cases e
    · cases e; exact .inr (.inr ⟨_, hj⟩)
theorem At.lt {H : AH} {b l r : Nat} {C : List AV} {S : List LB} {cs : List AV} (h : At H b l r C S cs) {i : Nat} (hi : Own b r cs i) : i < H.length := by
  rcases h.kind hi with ⟨_, e⟩ | ⟨_, e⟩ | ⟨_, e⟩ <;> exact (List.getElem?_eq_some_iff.1 e).1
theorem At.get {H : AH} {b l r : Nat} {C : List AV} {S : List LB} {cs : List AV} (h : At H b l r C S cs) {i : Nat} (hi : i < S.length) :
    ∃ cv, cs[i]? = some cv ∧ C[i * 2]? = some cv ∧ C[i * 2 + 1]? = some (.int .i64 S[i].given) ∧ RowAt H cv S[i].l.length 2 90 (txt S[i].l) := by
  have hc : cs[i]? = some (cs[i]'(by rw [h.lc]; exact hi)) := List.getElem?_eq_getElem _
  exact ⟨_, hc, h.one i _ _ (List.getElem?_eq_getElem hi) hc⟩
def atV (r : Nat) (n : Nat) (a : Int) : AV := if isL n a then .ptr (.mu r) (a.toNat * 2) else .nilptr
theorem at_ok {H : AH} {b l r : Nat} {C : List AV} {S : List LB} {cs : List AV} (h : At H b l r C S cs) (a : Int) : ACalls Tryd.prog R 28 [.ptr (.mu b) 0, .int .i64 a] H fun v H' => v = atV r S.length a ∧ H' = H := by
  have hb := h.box
  refine ACalls.of_wpE Fns.ok28 (by simp [Fns.a28]) ?_
  simp [Fns.a28, eqEv, hb]
  by_cases h1 : a < 0
  · have : isL S.length a = false := by simp [isL]; omega
    simp [h1, atV, this]
  by_cases h2 : (S.length : Int) ≤ a
  · have : isL S.length a = false := by simp [isL]; omega
    simp [h1, h2, hb, atV, this]
  · have h3 : isL S.length a = true := by simp [isL]; omega
    have h4 : 0 ≤ a ∧ a < (S.length : Int) := by omega
    simp [h1, h2, hb, atV, h3, h4]
theorem eq_fn {H : AH} (m n : Int) (s : List UInt8) {q : Nat} (hq : H[q]? = some (.cells [.int .i64 n] 3)) : ACalls Tryd.prog R 51 [.agg [.int .i64 m, .str s], .ptr (.mu q) 0] H fun v H' => H' = H ∧ v = .bool (decide (m = n)) := by
  refine ACalls.gc ?_
  refine ACalls.of_wpE Fns.ok51 (by simp [Fns.a51]) ?_
  have hql := (List.getElem?_eq_some_iff.1 hq).1
  have h1 : (H ++ [AO.cells [AV.int .i64 m, AV.str s] 90])[q]? = some (.cells [.int .i64 n] 3) := by rw [List.getElem?_append_left hql]; exact hq
  simp [Fns.a51, h1, ren]
theorem index_fn {H : AH} {q : Nat} {n : Int} {cv : AV} {l : List TX} (hq : H[q]? = some (.cells [.int .i64 n] 3)) (hr : RowAt H cv l.length 2 90 (txt l)) (hl : l.length ≤ 140737488355328) :
    ACalls Tryd.prog R 50 [cv, .fn (.func 51) [] [.ptr (.mu q) 0]] H fun v H' => H' = H ∧ v = .int .i64 (fv (fi l n)) := by
  refine ACalls.of_wpE Fns.ok50 (by simp [Fns.a50]) ?_
  rcases hr with ⟨rfl, h0, _⟩ | ⟨j, rfl, hj, hC⟩
  · have : l = [] := List.eq_nil_of_length_eq_zero h0
    subst this
    simp [Fns.a50]
    refine AWp.loop (fun e H' => H' = H ∧ e 7 = .int .i64 0 ∧ e 8 = .int .i64 0) (fun _ _ => 0) ⟨rfl, rfl, rfl⟩ ?_
    rintro e H' ⟨rfl, h7, h8⟩
    refine wpE_sound _ ?_
    simp [h7, h8, fi, fv]
  · simp [Fns.a50]
    refine AWp.loop (fun e H' => H' = H ∧ e 0 = .slice (.mu j) 0 l.length (.opn 0) ∧ e 1 = .fn (.func 51) [] [.ptr (.mu q) 0] ∧ e 7 = .int .i64 l.length ∧ ∃ i : Nat, e 8 = .int .i64 i ∧ i ≤ l.length ∧ ∀ k, k < i → ∀ p, l[k]? = some p → p.1 ≠ n) (fun e _ => match e 8 with | .int _ i => ((l.length : Int) - i).toNat | _ => 0) ⟨rfl, rfl, rfl, rfl, 0, rfl, by omega, fun k hk => by omega⟩ ?_
    rintro e H' ⟨rfl, h0, h1, h7, i, h8, hi, hno⟩
    refine wpE_sound _ ?_
    by_cases hlt : i < l.length
    · have hlt' : (i : Int) < (l.length : Int) := by omega
      have hw1 := i64_small ((i : Int) + 1) (by omega) (by omega)
      have hp : l[i]? = some l[i] := List.getElem?_eq_getElem hlt
      obtain ⟨c0, c1⟩ := txt_get l i _ hp
      have hrd : ((txt l).drop (i * 2)).take 2 = [.int .i64 l[i].1, .str l[i].2] := by
        have e1 : i * 2 < (txt l).length := by rw [txt_len]; omega
        have e2 : i * 2 + 1 < (txt l).length := by rw [txt_len]; omega
        rw [List.drop_eq_getElem_cons e1, List.drop_eq_getElem_cons e2]
        rw [List.getElem?_eq_getElem e1] at c0
        rw [List.getElem?_eq_getElem e2] at c1
        simp only [Option.some.injEq] at c0 c1
        simp [c0, c1]
      have hfit : i * 2 + 2 ≤ (txt l).length := by rw [txt_len]; omega
      have hfn := eq_fn (R := R) l[i].1 n l[i].2 hq
      simp [h0, h1, h7, h8, hlt, hlt', hj, hrd, hfit, fnArgs]
      refine ⟨by kernel_rfl, ?_⟩
      refine hfn.mono ?_
      rintro v H1 ⟨rfl, rfl⟩
      by_cases he : l[i].1 = n
      · have := fi_some hp he hno
        simp [he, this, fv]
      · simp [he, h0, h1, h7, h8, hw1]
        refine ⟨⟨i + 1, by simp, by omega, fun k hk p1 p2 hkp => ?_⟩, by omega⟩
        by_cases hki : k = i
        · subst hki; rw [hp] at hkp; simp only [Option.some.injEq] at hkp; rw [hkp] at he; exact he
        · exact hno k (by omega) (p1, p2) hkp
    · obtain rfl : i = l.length := by omega
      have : fi l n = none := fi_none fun p hp => by
        obtain ⟨k, hk, hk2⟩ := List.mem_iff_getElem.1 hp
        exact hno k hk p (by rw [← hk2]; exact List.getElem?_eq_getElem hk)
      simp [h7, h8, this, fv]
theorem find_nil (H : AH) (n : Int) : ACalls Tryd.prog R 32 [.nilptr, .int .i64 n] H fun v H' => H' = H ∧ v = .int .i64 (-1) := by
  refine ACalls.gc ?_
  refine ACalls.of_wpE Fns.ok32 (by simp [Fns.a32]) ?_
  simp [Fns.a32, ren]
theorem find_ok {H : AH} {b l r : Nat} {C : List AV} {S : List LB} {cs : List AV} (h : At H b l r C S cs) {an : Nat} (ha : an < S.length) (hl : S[an].l.length ≤ 140737488355328) (n : Int) : ACalls Tryd.prog R 32 [.ptr (.mu r) (an * 2), .int .i64 n] H fun v H' => H' = H ∧ v = .int .i64 (fv (fi S[an].l n)) := by
  refine ACalls.gc ?_
  refine ACalls.of_wpE Fns.ok32 (by simp [Fns.a32]) ?_
  obtain ⟨cv, _, c0, _, hr⟩ := h.get ha
  have hrl := (List.getElem?_eq_some_iff.1 h.row).1
  have hr1 : (H ++ [AO.cells [AV.int .i64 n] 3])[r]? = some (.cells C 87) := by rw [List.getElem?_append_left hrl]; exact h.row
  simp [Fns.a32, hr1, c0]
  refine (index_fn (H := H ++ [AO.cells [AV.int .i64 n] 3]) (q := H.length) (n := n) (by simp) (hr.frame fun j hj => ?_) hl).mono ?_
  · rcases hr with ⟨e, _⟩ | ⟨j', e, hj', _⟩
    · rw [hj] at e; cases e
    · rw [hj] at e; cases e
      rw [List.getElem?_append_left (List.getElem?_eq_some_iff.1 hj').1]
  · rintro v H' ⟨rfl, rfl⟩
    simp [ren]
end Go.Proofs.YtjncbipaikmogaaDoor.Bf
namespace Go.Proofs.YtjncbipaikmogaaDoor.Bf
open Go Go.RowKit Am Latt
set_option maxRecDepth 100000
set_option linter.unusedSimpArgs false
set_option linter.unusedVariables false
attribute [-simp] Am.binEv Am.intBin Am.read1
attribute [local simp] binEv_lss binEv_leq binEv_gtr binEv_geq binEv_eql binEv_neq binEv_add binEv_sub binEv_mul binEv_shr58 read1_ro read1_mu
variable {R : Ro}
/-- What has become of the heap. -/
def Moved (H H' : AH) (b r : Nat) (cs cs' : List AV) : Prop := H.length ≤ H'.length ∧ (∀ i, i < H.length → ¬ Own b r cs i → H'[i]? = H[i]?) ∧ ∀ i, Own b r cs' i → Own b r cs i ∨ H.length ≤ i
theorem Moved.refl (H : AH) (b r : Nat) (cs : List AV) : Moved H H b r cs cs := ⟨Nat.le_refl _, fun _ _ _ => rfl, fun _ h => .inl h⟩
theorem At.upd {H Hf : AH} {b l r : Nat} {C C2 : List AV} {S : List LB} {cs : List AV} (h : At H b l r C S cs) {an : Nat} (ha : an < S.length) {y : LB} {q : Nat} (hl : H.length ≤ Hf.length) (hr : Hf[r]? = some (.cells C2 87)) (hC : C2.length = C.length)
    (h0 : C2[an * 2]? = some (.slice (.mu q) 0 y.l.length (.opn 0))) (h1 : C2[an * 2 + 1]? = some (.int .i64 y.given)) (h2 : ∀ k, k ≠ an * 2 → k ≠ an * 2 + 1 → C2[k]? = C[k]?)
    (hf : ∀ i, i < H.length → i ≠ r → (∀ o n c, cs[an]? ≠ some (.slice (.mu i) o n c)) → Hf[i]? = H[i]?) (hq : H.length ≤ q) (hrow : Hf[q]? = some (.row (txt y.l) 90 2)) :
    At Hf b l r C2 (S.set an y) (cs.set an (.slice (.mu q) 0 y.l.length (.opn 0))) ∧ Moved H Hf b r cs (cs.set an (.slice (.mu q) 0 y.l.length (.opn 0))) := by
  have hbl := h.lt (.inl rfl)
  have hrl := h.lt (.inr (.inl rfl))
  have hbr : b ≠ r := fun e => by have h3 := h.box; rw [e, h.row] at h3; simp at h3
  have hac : an < cs.length := by rw [h.lc]; exact ha
  have nrow : ∀ i (o : Nat) n c, cs[an]? = some (.slice (.mu i) o n c) → ∃ d, H[i]? = some (.row d 90 2) := fun i o n c hc => by
    obtain ⟨cv, e, _, _, hrr⟩ := h.get ha
    rw [hc] at e; cases e
    rcases hrr with ⟨e, _⟩ | ⟨j, e, hj, _⟩
    · cases e
    · cases e; exact ⟨_, hj⟩
  refine ⟨⟨?_, hr, by rw [hC, h.cl]; simp, by simp [h.lc], ?_, ?_⟩, hl, ?_, ?_⟩
  · rw [hf b hbl hbr fun o n c hc => by obtain ⟨d, hd⟩ := nrow b o n c hc; rw [h.box] at hd; cases hd]
    rw [List.length_set]; exact h.box
  · intro i x cv hx hc
    rw [List.getElem?_set] at hx hc
    by_cases hi : an = i
    · subst hi
      rw [if_pos rfl, if_pos ha] at hx
      rw [if_pos rfl, if_pos hac] at hc
      cases hx; cases hc
      exact ⟨h0, h1, .inr ⟨q, rfl, hrow, txt_len _⟩⟩
    · rw [if_neg hi] at hx hc
      obtain ⟨o1, o2, o3⟩ := h.one i x cv hx hc
      refine ⟨by rw [h2 _ (by omega) (by omega)]; exact o1, by rw [h2 _ (by omega) (by omega)]; exact o2, o3.frame fun j hj => ?_⟩
      subst hj
      have hjo : ∃ d, H[j]? = some (.row d 90 2) := by
        rcases o3 with ⟨e, _⟩ | ⟨j', e, hj', _⟩
        · cases e
        · cases e; exact ⟨_, hj'⟩
      obtain ⟨d, hd⟩ := hjo
      exact hf j (List.getElem?_eq_some_iff.1 hd).1 (fun e => by subst e; rw [h.row] at hd; cases hd) fun o n c hc' => hi (h.csd an i j _ _ _ _ _ _ hc' hc)
  · intro i i' a o n c o' n' c' hi hi'
    rw [List.getElem?_set] at hi hi'
    have old : ∀ (k o : Nat) n c, cs[k]? = some (AV.slice (.mu a) o n c) → a < H.length := fun k o n c hk => h.lt (.inr (.inr ⟨o, n, c, List.mem_of_getElem? hk⟩))
    by_cases e1 : an = i
    · by_cases e2 : an = i'
      · omega
      · rw [if_neg e2] at hi'
        rw [if_pos e1, if_pos hac] at hi
        cases hi
        have := old _ _ _ _ hi'
        omega
    · rw [if_neg e1] at hi
      by_cases e2 : an = i'
      · rw [if_pos e2, if_pos hac] at hi'
        cases hi'
        have := old _ _ _ _ hi
        omega
      · rw [if_neg e2] at hi'
        exact h.csd i i' a _ _ _ _ _ _ hi hi'
  · intro i hi hno
    exact hf i hi (fun e => hno (.inr (.inl e))) fun o n c hc => hno (.inr (.inr ⟨o, n, c, List.mem_of_getElem? hc⟩))
  · rintro i (rfl | rfl | ⟨o, n, c, hc⟩)
    · exact .inl (.inl rfl)
    · exact .inl (.inr (.inl rfl))
    · rcases List.mem_or_eq_of_mem_set hc with hc | hc
      · exact .inl (.inr (.inr ⟨o, n, c, hc⟩))
      · cases hc; exact .inr hq
/-- slices.Insert at the head. -/
theorem ins_any {H : AH} {cv : AV} {l : List TX} {jv : Nat} {g : Int} {s : List UInt8} (hr : RowAt H cv l.length 2 90 (txt l)) (hv : H[jv]? = some (.cells [.int .i64 g, .str s] 90)) (hl : l.length ≤ 1000) :
    ACalls Tryd.prog R 29 [cv, .int .i64 0, .slice (.mu jv) 0 1 (.known 1)] H fun v G => v = .slice (.mu H.length) 0 (l.length + 1) (.opn 0) ∧ G.length = H.length + 1 ∧ G[H.length]? = some (.row (txt ((g, s) :: l)) 90 2) ∧ ∀ i, i < H.length → (∀ o n c, cv ≠ .slice (.mu i) o n c) → G[i]? = H[i]? := by
  rcases hr with ⟨rfl, h0, _⟩ | ⟨j, rfl, hj, hC⟩
  · have : l = [] := List.eq_nil_of_length_eq_zero h0
    subst this
    refine (ins_nilE Fns.ins_ok hv rfl (by decide) (by decide) (by decide) (by decide) rfl).mono ?_
    rintro v G ⟨rfl, rfl⟩
    exact ⟨rfl, by simp, by simp [txt], fun i hi _ => by rw [List.getElem?_append_left hi]⟩
  · have hjl := (List.getElem?_eq_some_iff.1 hj).1
    have fr : ∀ (X : AO) i, i < H.length → (∀ o n c, AV.slice (.mu j) 0 l.length (.opn 0) ≠ .slice (.mu i) o n c) → (H.set j .dead ++ [X])[i]? = H[i]? := fun X i hi hne => by
      rw [List.getElem?_append_left (by simpa using hi), List.getElem?_set]
      by_cases e : j = i
      · subst e; exact absurd rfl (hne _ _ _)
      · rw [if_neg e]
    cases l with
    | nil =>
      refine (ins_zeroE Fns.ins_ok hj hv rfl (by decide) (by decide) (by decide) (by decide) rfl).mono ?_
      rintro v G ⟨rfl, rfl⟩
      exact ⟨rfl, by simp, by simp [txt], fr _⟩
    | cons p l =>
      refine (ins_row (i := 0) Fns.mixed Fns.ins_ok rfl hj hv hC rfl (by simp) (by decide) (by decide) (by decide) (by simp at hl ⊢; omega) rfl (txt_one _) rfl).mono ?_
      rintro v G ⟨rfl, rfl⟩
      exact ⟨rfl, by simp, by simp [txt], fr _⟩
def putS (S : List LB) (a : Int) (s : List UInt8) : (Int × Int) × List LB :=
  if isL S.length a then match S[a.toNat]? with
    | some x => if 4096 < s.length then ((0, 3), S) else if x.l.length = 8 then ((0, 6), S) else ((x.given, 0), S.set a.toNat ⟨(x.given, s) :: x.l, x.given + 1⟩)
    | none => ((0, 1), S)
  else ((0, 1), S)
set_option maxHeartbeats 2000000 in
theorem put_ok {H : AH} {b l r : Nat} {C : List AV} {S : List LB} {cs : List AV} (h : At H b l r C S cs) (a : Int) (s : List UInt8) (hsm : ∀ x ∈ S, x.l.length ≤ 8) (hg : ∀ x ∈ S, 0 ≤ x.given ∧ x.given ≤ 1000000) :
    ACalls Tryd.prog R 11 [.ptr (.mu b) 0, .int .i64 a, .str s] H fun v H' => ∃ C' cs', v = .tuple [.int .i64 (putS S a s).1.1, .int .i64 (putS S a s).1.2] ∧ At H' b l r C' (putS S a s).2 cs' ∧ Moved H H' b r cs cs' := by
  refine ACalls.of_wpE Fns.ok11 (by simp [Fns.a11]) ?_
  simp [Fns.a11]
  refine (at_ok h a).mono ?_
  rintro v H ⟨rfl, rfl⟩
  cases ha : isL S.length a with
  | false =>
    have e : putS S a s = ((0, 1), S) := by simp [putS, ha]
    rw [e]
    simp [atV, ha, eqEv, h.box]
    exact ⟨_, _, h, Moved.refl ..⟩
  | true =>
    have ha2 := ha
    simp only [isL, Bool.and_eq_true, decide_eq_true_eq] at ha2
    obtain ⟨an, rfl⟩ : ∃ k : Nat, a = k := ⟨a.toNat, by omega⟩
    have han : an < S.length := by omega
    obtain ⟨cv, hcv, c0, c1, hrow⟩ := h.get han
    have hS : S[an]? = some S[an] := List.getElem?_eq_getElem han
    have h8 := hsm _ (List.getElem_mem han)
    have hgv := hg _ (List.getElem_mem han)
    have hlen : ∃ L, L = cv ∧ ((cv = .nilslice ∧ S[an].l.length = 0) ∨ ∃ j, cv = .slice (.mu j) 0 S[an].l.length (.opn 0)) := ⟨_, rfl, by
      rcases hrow with ⟨e, e2, _⟩ | ⟨j, e, _⟩
      · exact .inl ⟨e, e2⟩
      · exact .inr ⟨j, e⟩⟩
    have hwr := i64_small (S[an].given + 1) (by omega) (by omega)
    by_cases h4 : 4096 < s.length
    · have h4' : (4096 : Int) < (s.length : Int) := by omega
      have e : putS S (an : Int) s = ((0, 3), S) := by simp [putS, ha, hS, h4]
      rw [e]
      simp [atV, ha, eqEv, h.box, h.row, c0, h4, h4']
      exact ⟨_, _, h, Moved.refl ..⟩
    have h4' : ¬ (4096 : Int) < (s.length : Int) := by omega
    by_cases hf8 : S[an].l.length = 8
    · have e : putS S (an : Int) s = ((0, 6), S) := by simp [putS, ha, hS, h4, hf8]
      rw [e]
      obtain ⟨_, rfl, ⟨rfl, h0⟩ | ⟨j, rfl⟩⟩ := hlen
      · omega
      · simp [atV, ha, eqEv, h.box, h.row, c0, h4, h4', hf8]
        exact ⟨_, _, h, Moved.refl ..⟩
    have hf8' : ¬ (S[an].l.length : Int) = 8 := by omega
    have e : putS S (an : Int) s = ((S[an].given, 0), S.set an ⟨(S[an].given, s) :: S[an].l, S[an].given + 1⟩) := by simp [putS, ha, hS, h4, hf8]
    rw [e]
    have hrl := h.lt (.inr (.inl rfl))
    have hr1 : (H ++ [AO.cells [AV.int .i64 S[an].given, AV.str s] 90])[r]? = some (.cells C 87) := by rw [List.getElem?_append_left hrl]; exact h.row
    have hrow1 : RowAt (H ++ [AO.cells [AV.int .i64 S[an].given, AV.str s] 90]) cv S[an].l.length 2 90 (txt S[an].l) := hrow.frame fun j hj => by
      rcases hrow with ⟨e, _⟩ | ⟨j', e, hj', _⟩
      · rw [hj] at e; cases e
      · rw [hj] at e; cases e
        rw [List.getElem?_append_left (List.getElem?_eq_some_iff.1 hj').1]
    have hins := ins_any (R := R) (g := S[an].given) (s := s) (jv := H.length) hrow1 (by simp) (by omega)
    simp only [List.length_append, List.length_cons, List.length_nil, Nat.zero_add] at hins
    have fin : ∀ (G : AH), G.length = H.length + 1 + 1 → G[H.length + 1]? = some (.row (txt ((S[an].given, s) :: S[an].l)) 90 2) → (∀ i, i < H.length + 1 → (∀ o n c, cv ≠ .slice (.mu i) o n c) → G[i]? = (H ++ [AO.cells [AV.int .i64 S[an].given, AV.str s] 90])[i]?) →
        G[r]? = some (.cells C 87) ∧ ∃ cs', At (G.set r (.cells ((C.set (an * 2) (.slice (.mu (H.length + 1)) 0 (S[an].l.length + 1) (.opn 0))).set (an * 2 + 1) (.int .i64 (S[an].given + 1))) 87)) b l r ((C.set (an * 2) (.slice (.mu (H.length + 1)) 0 (S[an].l.length + 1) (.opn 0))).set (an * 2 + 1) (.int .i64 (S[an].given + 1))) (S.set an ⟨(S[an].given, s) :: S[an].l, S[an].given + 1⟩) cs' ∧ Moved H (G.set r (.cells ((C.set (an * 2) (.slice (.mu (H.length + 1)) 0 (S[an].l.length + 1) (.opn 0))).set (an * 2 + 1) (.int .i64 (S[an].given + 1))) 87)) b r cs cs' := by
      intro G hl hq hk
      have hcr : ∀ (o : Nat) n c, cv ≠ .slice (.mu r) o n c := fun o n c e => by
        rcases hrow with ⟨e2, _⟩ | ⟨j', e2, hj', _⟩
        · rw [e2] at e; cases e
        · rw [e2] at e; cases e
          rw [h.row] at hj'; cases hj'
      have hGr : G[r]? = some (.cells C 87) := by rw [hk r (by omega) hcr]; exact hr1
      have h2an : an * 2 < C.length := by rw [h.cl]; omega
      have h2an1 : an * 2 + 1 < C.length := by rw [h.cl]; omega
      refine ⟨hGr, _, h.upd han (y := ⟨(S[an].given, s) :: S[an].l, S[an].given + 1⟩) (q := H.length + 1) (by rw [List.length_set, hl]; omega) (by rw [List.getElem?_set_self (by rw [hl]; omega)]) (by simp) ?_ ?_ ?_ ?_ (by omega) ?_⟩
      · rw [List.getElem?_set_ne (by omega), List.getElem?_set_self (by simpa using h2an)]; simp
      · rw [List.getElem?_set_self (by simpa using h2an1)]
      · intro k k1 k2
        rw [List.getElem?_set_ne (by omega), List.getElem?_set_ne (by omega)]
      · intro i hi hir hno
        rw [List.getElem?_set_ne (Ne.symm hir), hk i (by omega) fun o n c e => hno o n c (by rw [hcv, e]), List.getElem?_append_left hi]
      · rw [List.getElem?_set_ne (by omega)]; exact hq
    have hsp : ∀ (D : List AV) (k : Nat) (v : AV), k < D.length → splice D k [v] = D.set k v := fun D k v hk => splice_one hk
    have h2an : an * 2 < C.length := by rw [h.cl]; omega
    have h2an1 : an * 2 + 1 < C.length := by rw [h.cl]; omega
    have tail : ∀ {cvv : AV}, cv = cvv → True := fun _ => trivial
    obtain ⟨_, rfl, hcase⟩ := hlen
    rcases hcase with ⟨rfl, h0⟩ | ⟨j, rfl⟩
    all_goals
      simp [atV, ha, eqEv, h.box, h.row, c0, c1, h4, h4', hf8, hf8', hr1]
      refine hins.mono ?_
      rintro v G ⟨rfl, hl, hq, hk⟩
      obtain ⟨hGr, cs', hA, hM⟩ := fin G hl hq hk
      have hrG : r < G.length := by rw [hl]; omega
      have hset : ∀ o, (G.set r o)[r]? = some o := fun o => List.getElem?_set_self hrG
      have hC0 : ∀ v : AV, (C.set (an * 2) v)[an * 2 + 1]? = some (.int .i64 S[an].given) := fun v => by rw [List.getElem?_set_ne (by omega)]; exact c1
      have hle1 : an * 2 + 1 ≤ C.length := by omega
      have hle2 : an * 2 + 1 + 1 ≤ C.length := by omega
      have hsp1 : ∀ v, splice C (an * 2) [v] = C.set (an * 2) v := fun v => hsp _ _ _ h2an
      have hsp2 : ∀ v w, splice (C.set (an * 2) v) (an * 2 + 1) [w] = (C.set (an * 2) v).set (an * 2 + 1) w := fun v w => hsp _ _ _ (by simpa using h2an1)
      simp [hGr, writeN, AO.content, AO.withContent, hsp1, hsp2, hle1, hle2, hset, hC0, hwr]
      exact ⟨_, _, hA, hM⟩
end Go.Proofs.YtjncbipaikmogaaDoor.Bf
namespace Go.Proofs.YtjncbipaikmogaaDoor.Bf
open Go Go.RowKit Am Latt
set_option maxRecDepth 100000
set_option linter.unusedSimpArgs false
set_option linter.unusedVariables false
attribute [-simp] Am.binEv Am.intBin Am.read1
attribute [local simp] binEv_lss binEv_leq binEv_gtr binEv_geq binEv_eql binEv_neq binEv_add binEv_sub binEv_mul binEv_shr58 read1_ro read1_mu
variable {R : Ro}
def lbAt (S : List LB) (a : Int) : Option LB := if isL S.length a then S[a.toNat]? else none
theorem lbAt_some {S : List LB} {a : Int} {x : LB} (h : lbAt S a = some x) : ∃ an : Nat, a = an ∧ ∃ h : an < S.length, S[an] = x := by
  unfold lbAt at h
  split at h
  · rename_i ha
    simp only [isL, Bool.and_eq_true, decide_eq_true_eq] at ha
    refine ⟨a.toNat, by omega, by omega, ?_⟩
    have := List.getElem?_eq_some_iff.1 h
    exact this.2
  · cases h
theorem lbAt_none {S : List LB} {a : Int} (h : lbAt S a = none) : isL S.length a = false := by
  unfold lbAt at h
  split at h
  · rename_i ha
    simp only [isL, Bool.and_eq_true, decide_eq_true_eq] at ha
    rw [List.getElem?_eq_none_iff] at h
    omega
  · rename_i ha; simpa using ha
theorem lbAt_nat {S : List LB} {an : Nat} (h : an < S.length) : lbAt S (an : Int) = some S[an] := by
  have : isL S.length (an : Int) = true := by simp [isL]; omega
  unfold lbAt
  rw [if_pos this]; simp [h]
theorem isL_nat {n an : Nat} (h : an < n) : isL n (an : Int) = true := by simp [isL]; omega
def dropS (S : List LB) (a n : Int) : Int × List LB := match lbAt S a with
  | none => (1, S)
  | some x => match fi x.l n with
    | none => (4, S)
    | some k => (0, S.set a.toNat ⟨x.l.eraseIdx k, x.given⟩)
def getS (S : List LB) (a n : Int) : Option (List UInt8) := match lbAt S a with
  | none => none
  | some x => match fi x.l n with
    | none => none
    | some k => (x.l[k]?).map (·.2)
def newS (S : List LB) (a : Int) : Int × Bool := match lbAt S a with
  | none => (0, false)
  | some x => match x.l with
    | [] => (0, false)
    | p :: _ => (p.1, true)
def roomS (S : List LB) (a : Int) : Int := match lbAt S a with
  | none => 0
  | some x => 8 - x.l.length
theorem room_ok {H : AH} {b l r : Nat} {C : List AV} {S : List LB} {cs : List AV} (h : At H b l r C S cs) (a : Int) (hsm : ∀ x ∈ S, x.l.length ≤ 8) :
    ACalls Tryd.prog R 20 [.ptr (.mu b) 0, .int .i64 a] H fun v H' => v = .int .i64 (roomS S a) ∧ H' = H := by
  refine ACalls.of_wpE Fns.ok20 (by simp [Fns.a20]) ?_
  simp [Fns.a20]
  refine (at_ok h a).mono ?_
  rintro v H ⟨rfl, rfl⟩
  cases ha : lbAt S a with
  | none =>
    have := lbAt_none ha
    simp [atV, this, roomS, ha]
  | some x =>
    obtain ⟨an, rfl, han, rfl⟩ := lbAt_some ha
    obtain ⟨cv, hcv, c0, c1, hrow⟩ := h.get han
    have h8 := hsm _ (List.getElem_mem han)
    have hw := i64_small (8 - (S[an].l.length : Int)) (by omega) (by omega)
    rcases hrow with ⟨rfl, h0, _⟩ | ⟨j, rfl, hj, _⟩
    · rw [h0] at hw
      simp [atV, isL_nat han, eqEv, h.row, c0, roomS, ha, h0, hw]
      exact hw
    · simp [atV, isL_nat han, eqEv, h.row, c0, roomS, ha, hw]
theorem newest_ok {H : AH} {b l r : Nat} {C : List AV} {S : List LB} {cs : List AV} (h : At H b l r C S cs) (a : Int) :
    ACalls Tryd.prog R 22 [.ptr (.mu b) 0, .int .i64 a] H fun v H' => v = .tuple [.int .i64 (newS S a).1, .bool (newS S a).2] ∧ H' = H := by
  refine ACalls.of_wpE Fns.ok22 (by simp [Fns.a22]) ?_
  simp [Fns.a22]
  refine (at_ok h a).mono ?_
  rintro v H ⟨rfl, rfl⟩
  cases ha : lbAt S a with
  | none =>
    have := lbAt_none ha
    simp [atV, this, newS, ha]
  | some x =>
    obtain ⟨an, rfl, han, rfl⟩ := lbAt_some ha
    obtain ⟨cv, hcv, c0, c1, hrow⟩ := h.get han
    cases hl : S[an].l with
    | nil =>
      rw [hl] at hrow
      rcases hrow with ⟨rfl, h0, _⟩ | ⟨j, rfl, hj, _⟩
      · simp [atV, isL_nat han, eqEv, h.row, c0, newS, ha, hl]
      · simp [atV, isL_nat han, eqEv, h.row, c0, newS, ha, hl]
    | cons p t =>
      rw [hl] at hrow
      have hz : ¬ ((t.length : Int) + 1 = 0) := by omega
      have hz2 : (0 : Int) < (t.length : Int) + 1 := by omega
      rcases hrow with ⟨rfl, h0, _⟩ | ⟨j, rfl, hj, _⟩
      · simp at h0
      · simp [atV, isL_nat han, eqEv, h.row, c0, newS, ha, hl, hz, hz2, hj, txt]
theorem get_ok {H : AH} {b l r : Nat} {C : List AV} {S : List LB} {cs : List AV} (h : At H b l r C S cs) (a n : Int) (hsm : ∀ x ∈ S, x.l.length ≤ 8) :
    ACalls Tryd.prog R 18 [.ptr (.mu b) 0, .int .i64 a, .int .i64 n] H fun v H' => v = .tuple [.str ((getS S a n).getD []), .bool (getS S a n).isSome] ∧ H' = H := by
  refine ACalls.of_wpE Fns.ok18 (by simp [Fns.a18]) ?_
  simp [Fns.a18]
  refine (at_ok h a).mono ?_
  rintro v H ⟨rfl, rfl⟩
  cases ha : lbAt S a with
  | none =>
    have := lbAt_none ha
    simp [atV, this]
    refine (find_nil _ _).mono ?_
    rintro v H ⟨rfl, rfl⟩
    simp [getS, ha]
  | some x =>
    obtain ⟨an, rfl, han, rfl⟩ := lbAt_some ha
    obtain ⟨cv, hcv, c0, c1, hrow⟩ := h.get han
    have h8 := hsm _ (List.getElem_mem han)
    simp [atV, isL_nat han]
    refine (find_ok h han (by omega) n).mono ?_
    rintro v H ⟨rfl, rfl⟩
    cases hf : fi S[an].l n with
    | none => simp [fv, getS, ha, hf]
    | some k =>
      obtain ⟨p, hp, _⟩ := fi_get hf
      obtain ⟨t0, t1⟩ := txt_get _ _ _ hp
      have hkl := (List.getElem?_eq_some_iff.1 hp).1
      have hkl' : (k : Int) < (S[an].l.length : Int) := by omega
      have hk0 : ¬ (k : Int) < 0 := by omega
      rcases hrow with ⟨rfl, h0, _⟩ | ⟨j, rfl, hj, _⟩
      · omega
      · simp [fv, h.row, c0, hkl, hkl', hk0, hj, t1, getS, ha, hf]
        rw [(List.getElem?_eq_some_iff.1 hp).2]
set_option maxHeartbeats 2000000 in
theorem drop_ok {H : AH} {b l r : Nat} {C : List AV} {S : List LB} {cs : List AV} (h : At H b l r C S cs) (a n : Int) (hsm : ∀ x ∈ S, x.l.length ≤ 8) :
    ACalls Tryd.prog R 13 [.ptr (.mu b) 0, .int .i64 a, .int .i64 n] H fun v H' => ∃ C' cs', v = .int .i64 (dropS S a n).1 ∧ At H' b l r C' (dropS S a n).2 cs' ∧ Moved H H' b r cs cs' := by
  refine ACalls.of_wpE Fns.ok13 (by simp [Fns.a13]) ?_
  simp [Fns.a13]
  refine (at_ok h a).mono ?_
  rintro v H ⟨rfl, rfl⟩
  cases ha : lbAt S a with
  | none =>
    have hd : dropS S a n = (1, S) := by simp [dropS, ha]
    rw [hd]
    have := lbAt_none ha
    simp [atV, this]
    refine (find_nil _ _).mono ?_
    rintro v H ⟨rfl, rfl⟩
    simp [eqEv, h.box]
    exact ⟨_, _, h, Moved.refl ..⟩
  | some x =>
    obtain ⟨an, rfl, han, rfl⟩ := lbAt_some ha
    obtain ⟨cv, hcv, c0, c1, hrow⟩ := h.get han
    have h8 := hsm _ (List.getElem_mem han)
    simp [atV, isL_nat han]
    refine (find_ok h han (by omega) n).mono ?_
    rintro v H ⟨rfl, rfl⟩
    cases hf : fi S[an].l n with
    | none =>
      have hd : dropS S (an : Int) n = (4, S) := by simp [dropS, ha, hf]
      rw [hd]
      simp [eqEv, h.box, h.row, fv, c0]
      exact ⟨_, _, h, Moved.refl ..⟩
    | some k =>
      obtain ⟨p, hp, _⟩ := fi_get hf
      have hkl := (List.getElem?_eq_some_iff.1 hp).1
      have hk0 : ¬ (k : Int) < 0 := by omega
      have hd : dropS S (an : Int) n = (0, S.set an ⟨S[an].l.eraseIdx k, S[an].given⟩) := by simp [dropS, ha, hf]
      rw [hd]
      have hw := i64_small ((k : Int) + 1) (by omega) (by omega)
      have hrl := h.lt (.inr (.inl rfl))
      rcases hrow with ⟨rfl, h0, _⟩ | ⟨j, rfl, hj, hC⟩
      · omega
      · have hjl := (List.getElem?_eq_some_iff.1 hj).1
        have hjr : j ≠ r := fun e => by rw [e, h.row] at hj; cases hj
        have h2an : an * 2 < C.length := by rw [h.cl]; omega
        have hle1 : an * 2 + 1 ≤ C.length := by omega
        have hlen : (S[an].l.eraseIdx k).length = S[an].l.length - 1 := List.length_eraseIdx_of_lt hkl
        have hdel := del_row (P := Tryd.prog) (R := R) (i := k) Fns.mixed Fns.del_ok rfl hj hC hkl (by decide) (by decide) (by omega) rfl (txt_one _)
        have htx : (txt S[an].l).take (k * 2) ++ (txt S[an].l).drop ((k + 1) * 2) = txt (S[an].l.eraseIdx k) := by
          rw [txt_take, txt_drop, txt_app, List.eraseIdx_eq_take_drop_succ]
        rw [htx] at hdel
        have hGr : (H.set j .dead ++ [AO.row (txt (S[an].l.eraseIdx k)) 90 2])[r]? = some (.cells C 87) := by
          rw [List.getElem?_append_left (by simpa using hrl), List.getElem?_set_ne hjr]; exact h.row
        have hupd := h.upd han (Hf := (H.set j .dead ++ [AO.row (txt (S[an].l.eraseIdx k)) 90 2]).set r (.cells (C.set (an * 2) (.slice (.mu H.length) 0 (S[an].l.length - 1) (.opn 0))) 87)) (C2 := C.set (an * 2) (.slice (.mu H.length) 0 (S[an].l.length - 1) (.opn 0))) (y := ⟨S[an].l.eraseIdx k, S[an].given⟩) (q := H.length) (by simp) (by rw [List.getElem?_set_self (by simp; omega)]) (by simp)
          (by rw [List.getElem?_set_self h2an, hlen]) (by rw [List.getElem?_set_ne (by omega)]; exact c1) (fun q k1 k2 => by rw [List.getElem?_set_ne (by omega)])
          (fun i hi hir hno => by
            have hij : j ≠ i := fun e => by subst e; exact hno _ _ _ hcv
            rw [List.getElem?_set_ne (Ne.symm hir), List.getElem?_append_left (by simpa using hi), List.getElem?_set_ne hij]) (Nat.le_refl _)
          (by rw [List.getElem?_set_ne (by omega)]; simp)
        have hsp1 : ∀ v, splice C (an * 2) [v] = C.set (an * 2) v := fun v => splice_one h2an
        simp [eqEv, h.box, h.row, fv, c0, hk0, hw]
        refine hdel.mono ?_
        rintro v G ⟨rfl, rfl⟩
        simp [hGr, writeN, AO.content, AO.withContent, hsp1, hle1]
        exact ⟨_, _, hupd.1, hupd.2⟩
end Go.Proofs.YtjncbipaikmogaaDoor.Bf
namespace Go.Proofs.YtjncbipaikmogaaDoor.Bf
open Go Go.RowKit Am Latt
set_option maxRecDepth 100000
set_option linter.unusedSimpArgs false
set_option linter.unusedVariables false
attribute [-simp] Am.binEv Am.intBin Am.read1
attribute [local simp] binEv_lss binEv_leq binEv_gtr binEv_geq binEv_eql binEv_neq binEv_add binEv_sub binEv_mul binEv_shr58 read1_ro read1_mu
variable {R : Ro}
abbrev NM := Int × Int
def nmsV : List NM → List AV
  | [] => []
  | p :: l => .int .i64 p.1 :: .int .i64 p.2 :: nmsV l
theorem nmsV_app : ∀ (l m : List NM), nmsV (l ++ m) = nmsV l ++ nmsV m
  | [], m => rfl
  | p :: l, m => by simp [nmsV, nmsV_app l m]
theorem nmsV_get : ∀ (l : List NM) (i : Nat) (p : NM), l[i]? = some p → (nmsV l)[i * 2]? = some (.int .i64 p.1) ∧ (nmsV l)[i * 2 + 1]? = some (.int .i64 p.2)
  | [], i, p, h => by simp at h
  | q :: l, 0, p, h => by simp at h; subst h; simp [nmsV]
  | q :: l, i + 1, p, h => by
    have := nmsV_get l i p (by simpa using h)
    have e1 : (i + 1) * 2 = i * 2 + 1 + 1 := by omega
    have e2 : (i + 1) * 2 + 1 = i * 2 + 1 + 1 + 1 := by omega
    rw [e2, e1]
    exact this
/-- What is seen of one label. -/
def ofL (S : List LB) (a : Nat) : List NM := match S[a]? with
  | some x => x.l.map fun t => ((a : Int), t.1)
  | none => []
def seenS (S : List LB) (L : List Nat) : List NM := L.flatMap (ofL S)
theorem ofL_len {S : List LB} (hsm : ∀ x ∈ S, x.l.length ≤ 8) (a : Nat) : (ofL S a).length ≤ 8 := by
  unfold ofL
  split
  · rename_i x hx; rw [List.length_map]; exact hsm x (List.mem_of_getElem? hx)
  · simp
theorem seen_len {S : List LB} (hsm : ∀ x ∈ S, x.l.length ≤ 8) : ∀ L : List Nat, (seenS S L).length ≤ 8 * L.length
  | [] => by simp [seenS]
  | a :: L => by
    have h1 := ofL_len hsm a
    have h2 := seen_len hsm L
    unfold seenS at h2 ⊢
    simp only [List.flatMap_cons, List.length_append, List.length_cons]
    omega
theorem Own.keeps {H H' : AH} {b l r : Nat} {C : List AV} {S : List LB} {cs : List AV} (h : At H b l r C S cs) (hk : Keeps H H') : At H' b l r C S cs := h.frame fun i hi => hk.2 i (h.lt hi)
theorem downs_lt (up : List Nat) (a : Int) {x k : Nat} (h : x ∈ downs up a k) : x < k ∧ bel up x a = true := by
  unfold downs at h
  simp only [List.mem_filter, List.mem_range] at h
  exact h
set_option maxHeartbeats 4000000 in
theorem seen_ok {H : AH} {b l r : Nat} {C : List AV} {S : List LB} {cs : List AV} {up dn : List Nat} (h : At H b l r C S cs) (hL : LatAt R H l up dn) (hSl : S.length = up.length) (a : Int) (hsm : ∀ x ∈ S, x.l.length ≤ 8) :
    ACalls Tryd.prog R 19 [.ptr (.mu b) 0, .int .i64 a] H fun v H' => RowOwn H H' v (seenS S (downs up a up.length)).length 2 53 (nmsV (seenS S (downs up a up.length))) := by
  have hle := hL.le
  refine ACalls.of_wpE Fns.ok19 (by simp [Fns.a19]) ?_
  simp [Fns.a19, eqEv, h.box]
  refine (downset_ok hL a).mono ?_
  rintro v H1 hD
  have hdl := downs_le up a up.length
  have hdm : ∀ x ∈ downs up a up.length, x < S.length := fun x hx => by rw [hSl]; exact (downs_lt up a hx).1
  generalize downs up a up.length = D at hD hdl hdm
  obtain ⟨lv, hlv⟩ : ∃ w, w = v := ⟨_, rfl⟩
  have hvl : (AOp.lenL (.t 17)).eval Tryd.prog R (fun _ => v) H1 = some (.int .i64 D.length, H1) := by
    rcases hD.row with ⟨rfl, h0, _⟩ | ⟨j, rfl, _⟩
    · simp [h0]
    · simp
  simp only [AOp.eval, X.ev] at hvl
  simp [hvl]
  refine AWp.loop (fun e H2 => e 0 = .ptr (.mu b) 0 ∧ e 17 = v ∧ e 18 = .int .i64 D.length ∧ ∃ i : Nat, e 19 = .int .i64 i ∧ i ≤ D.length ∧ RowOwn H1 H2 (e 5) (seenS S (D.take i)).length 2 53 (nmsV (seenS S (D.take i))))
    (fun e _ => match e 19 with | .int _ i => ((D.length : Int) - i).toNat | _ => 0) ⟨by simp, by simp, by simp, 0, by simp, by omega, by simpa [seenS, nmsV] using RowOwn.nil H1 2 53⟩ ?_
  rintro e H2 ⟨h0, h17, h18, i, h19, hi, hrow⟩
  have hk2 := hrow.keeps
  refine wpE_sound _ ?_
  have hA1 := Own.keeps h hD.keeps
  by_cases hlt : i < D.length
  · have hlt' : (i : Int) < (D.length : Int) := by omega
    have hw1 := i64_small ((i : Int) + 1) (by omega) (by omega)
    have hA2 := Own.keeps h (hD.keeps.trans hk2)
    have hd := hdm _ (List.getElem_mem hlt)
    obtain ⟨cv, hcv, c0, c1, hcr⟩ := hA1.get hd
    have hdi : D[i]? = some D[i] := List.getElem?_eq_getElem hlt
    obtain ⟨jd, rfl, hjd, hjdl⟩ : ∃ j, v = .slice (.mu j) 0 D.length (.opn 0) ∧ H2[j]? = some (.row (D.map fun (b : Nat) => .int .i64 b) 3 1) ∧ j < H1.length := by
      rcases hD.row with ⟨_, e0, _⟩ | ⟨j, e0, hj, _⟩
      · omega
      · have := (List.getElem?_eq_some_iff.1 hj).1
        exact ⟨j, e0, by rw [hk2.2 j this]; exact hj, this⟩
    have hh8 := hsm _ (List.getElem_mem hd)
    have hdS : (D[i] : Int) < (S.length : Int) := by omega
    have hrd : (D.map fun (b : Nat) => AV.int .i64 b)[i]? = some (.int .i64 (D[i] : Nat)) := by simp [hdi]
    have hsl := seen_len hsm (D.take i)
    have htl : (D.take i).length ≤ 64 := by rw [List.length_take]; omega
    have hlc : (cv = .nilslice ∧ S[D[i]].l.length = 0) ∨ ∃ j, cv = .slice (.mu j) 0 S[D[i]].l.length (.opn 0) ∧ H1[j]? = some (.row (txt S[D[i]].l) 90 2) := by
      rcases hcr with ⟨e1, e2, _⟩ | ⟨j, e1, e2, _⟩
      · exact .inl ⟨e1, e2⟩
      · exact .inr ⟨j, e1, e2⟩
    have hnext : seenS S (D.take (i + 1)) = seenS S (D.take i) ++ S[D[i]].l.map fun t => ((D[i] : Int), t.1) := by
      unfold seenS
      rw [List.take_add_one, hdi, Option.toList_some, List.flatMap_append]
      congr 1
      simp [ofL, hd]
    rcases hlc with ⟨rfl, hl0⟩ | ⟨j, rfl, hj⟩
    · simp [h0, h17, h18, h19, hlt, hlt', hjd, hrd, hA2.box, hA2.row, hd, hdS, c0]
      refine AWp.loop (fun e' H' => H' = H2 ∧ e' 31 = .int .i64 0 ∧ e' 32 = .int .i64 0 ∧ e' 0 = .ptr (.mu b) 0 ∧ e' 17 = .slice (.mu jd) 0 D.length (.opn 0) ∧ e' 18 = .int .i64 D.length ∧ e' 19 = .int .i64 i ∧ e' 5 = e 5) (fun _ _ => 0) ⟨rfl, by simp, by simp, by simp [h0], by simp [h17], by simp [h18], by simp [h19], by simp⟩ ?_
      rintro e' H' ⟨rfl, g31, g32, g0, g17, g18, g19, g5⟩
      refine wpE_sound _ ?_
      simp [g0, g17, g18, g19, g31, g32, hw1]
      have hl00 : S[D[i]].l = [] := List.eq_nil_of_length_eq_zero hl0
      exact ⟨⟨i + 1, by simp, by omega, by rw [hnext, hl00, g5]; simpa using hrow⟩, by omega⟩
    · have hjl := (List.getElem?_eq_some_iff.1 hj).1
      simp [h0, h17, h18, h19, hlt, hlt', hjd, hrd, hA2.box, hA2.row, hd, hdS, c0]
      refine AWp.loop (fun e' H' => e' 30 = .slice (.mu j) 0 S[D[i]].l.length (.opn 0) ∧ e' 31 = .int .i64 S[D[i]].l.length ∧ e' 7 = .int .i64 (D[i] : Nat) ∧ e' 0 = .ptr (.mu b) 0 ∧ e' 17 = .slice (.mu jd) 0 D.length (.opn 0) ∧ e' 18 = .int .i64 D.length ∧ e' 19 = .int .i64 i ∧
        ∃ m : Nat, e' 32 = .int .i64 m ∧ m ≤ S[D[i]].l.length ∧ RowOwn H1 H' (e' 5) ((seenS S (D.take i)).length + m) 2 53 (nmsV (seenS S (D.take i) ++ (S[D[i]].l.take m).map fun t => ((D[i] : Int), t.1))))
        (fun e _ => match e 32 with | .int _ i' => ((S[D[i]].l.length : Int) - i').toNat | _ => 0) ⟨by simp, by simp, by simp, by simp [h0], by simp [h17], by simp [h18], by simp [h19], 0, by simp, by omega, by simpa using hrow⟩ ?_
      rintro e' H' ⟨g30, g31, g7, g0, g17, g18, g19, m, g32, hm, hrow'⟩
      refine wpE_sound _ ?_
      by_cases hml : m < S[D[i]].l.length
      · have hml' : (m : Int) < (S[D[i]].l.length : Int) := by omega
        have hw2 := i64_small ((m : Int) + 1) (by omega) (by omega)
        have hj' : H'[j]? = some (.row (txt S[D[i]].l) 90 2) := by rw [hrow'.keeps.2 j hjl]; exact hj
        have hp : S[D[i]].l[m]? = some S[D[i]].l[m] := List.getElem?_eq_getElem hml
        obtain ⟨t0, t1⟩ := txt_get _ m _ hp
        have hrd2 : ((txt S[D[i]].l).drop (m * 2)).take 2 = [.int .i64 S[D[i]].l[m].1, .str S[D[i]].l[m].2] := by
          have e1 : m * 2 < (txt S[D[i]].l).length := by rw [txt_len]; omega
          have e2 : m * 2 + 1 < (txt S[D[i]].l).length := by rw [txt_len]; omega
          rw [List.drop_eq_getElem_cons e1, List.drop_eq_getElem_cons e2]
          rw [List.getElem?_eq_getElem e1] at t0
          rw [List.getElem?_eq_getElem e2] at t1
          simp only [Option.some.injEq] at t0 t1
          simp [t0, t1]
        have hfit : m * 2 + 2 ≤ (txt S[D[i]].l).length := by rw [txt_len]; omega
        have hrow2 := hrow'.more (Keeps.app H' [AO.cells [.int .i64 S[D[i]].l[m].1, .str S[D[i]].l[m].2] 90])
        obtain ⟨G, hG, hrow3, hGl, hGk⟩ := hrow2.push (R := R) (by' := 16) (t' := 53) (new := [.int .i64 (D[i] : Nat), .int .i64 S[D[i]].l[m].1]) (by omega) (by omega) (by omega) (by simp [AV.oneCell]) rfl (.known 1)
        have hset : (H' ++ [AO.cells [AV.int IntKind.i64 0, AV.str []] 90]).set H'.length (.cells [.int .i64 S[D[i]].l[m].1, .str S[D[i]].l[m].2] 90) = H' ++ [AO.cells [.int .i64 S[D[i]].l[m].1, .str S[D[i]].l[m].2] 90] := by simp
        simp [List.append_assoc] at hG
        simp [g0, g7, g17, g18, g19, g30, g31, g32, hml, hml', hj', hrd2, hfit, hw2, writeN, AO.content, AO.withContent, splice, fillA, hG, hset, AV.oneCell, zerosEv]
        refine ⟨⟨m + 1, by simp, by omega, ?_⟩, by omega⟩
        have e3 : nmsV (seenS S (D.take i) ++ (S[D[i]].l.take m).map fun t => ((D[i] : Int), t.1)) ++ [.int .i64 (D[i] : Nat), .int .i64 S[D[i]].l[m].1] = nmsV (seenS S (D.take i) ++ (S[D[i]].l.take (m + 1)).map fun t => ((D[i] : Int), t.1)) := by
          rw [List.take_add_one, hp, Option.toList_some, List.map_append, ← List.append_assoc, nmsV_app (_ ++ _)]
          rfl
        rw [e3] at hrow3
        simpa [Nat.add_assoc] using hrow3
      · obtain rfl : m = S[D[i]].l.length := by omega
        simp [g0, g7, g17, g18, g19, g30, g31, g32, hw1]
        refine ⟨⟨i + 1, by simp, by omega, ?_⟩, by omega⟩
        rw [hnext]
        simpa using hrow'
  · obtain rfl : i = D.length := by omega
    simp [h18, h19]
    rw [List.take_length] at hrow
    exact ⟨hrow.row, fun i o ln cp e => Nat.le_trans hD.keeps.1 (hrow.low i o ln cp e), hD.keeps.trans hrow.keeps⟩
end Go.Proofs.YtjncbipaikmogaaDoor.Bf
namespace Go.Proofs.YtjncbipaikmogaaDoor.Bf
open Go Go.RowKit Am Latt
set_option maxRecDepth 100000
set_option linter.unusedSimpArgs false
set_option linter.unusedVariables false
theorem prb {P : Program} {α β : Type} (s : Sem α) (f : α → Sem β) : pureRun P (s >>= f) = (pureRun P s).bind fun q => pureRun P (f q) := by
  cases h : pureRun P s with
  | some q =>
    cases h2 : pureRun P (f q) with
    | some r => rw [pureRun_bind_mk h h2]; simp [h2]
    | none =>
      cases h3 : pureRun P (s >>= f) with
      | none => simp [h2]
      | some r => obtain ⟨q', h4, h5⟩ := pureRun_bind h3; rw [h] at h4; cases h4; rw [h2] at h5; cases h5
  | none =>
    cases h3 : pureRun P (s >>= f) with
    | none => rfl
    | some r => obtain ⟨q', h4, _⟩ := pureRun_bind h3; rw [h] at h4; cases h4
theorem prp {P : Program} {α : Type} (a : α) : pureRun P (pure a) = some a := rfl
def fieldsP : Array Field := #[⟨"Label", 3, 0, false, "", "", 0⟩, ⟨"N", 3, 1, false, "", "", 8⟩]
theorem underP : Tryd.prog.underlying 53 = some (.struct fieldsP) := by kernel_rfl
theorem underI : Tryd.prog.underlying 3 = some (.int .i64) := by kernel_rfl
theorem guardP : Tryd.prog.eqGuardType Tryd.prog.depth 53 = false := by kernel_rfl
theorem stoodP : Tryd.prog.stoodInHeld 53 = false := by kernel_rfl
theorem partI (cs : Array Value) (k : Nat) (v : Value) (hv : cs[k]? = some v) : pureRun Tryd.prog (part 3 cs k) = some v := by
  unfold part Go.isAgg
  simp only [prb, pureRun_under underI, Option.bind_some, prp, Bool.false_eq_true, if_false, hv]
theorem equalP (a b a' b' : Int) : pureRun Tryd.prog (Op.equal 53 (.agg #[.int .i64 a, .int .i64 b]) (.agg #[.int .i64 a', .int .i64 b'])) = some (decide (a = a' ∧ b = b')) := by
  have q2 : ∀ z w, pureRun Tryd.prog (Op.equalIn 9999 3 (.int .i64 z) (.int .i64 w)) = some (z == w) := fun z w => by
    rw [show (9999 : Nat) = 9998 + 1 from rfl, Op.equalIn]
    simp only [prb, pureRun_under underI, Option.bind_some, if_true, prp]
  have p0 := fun (a b : Int) => partI #[.int .i64 a, .int .i64 b] 0 _ rfl
  have p1 := fun (a b : Int) => partI #[.int .i64 a, .int .i64 b] 1 _ rfl
  unfold Op.equal Op.maxDepth
  rw [show (10000 : Nat) = 9999 + 1 from rfl, Op.equalIn]
  simp only [prb, pureRun_under underP, Option.bind_some, program, pureRun, stoodP, fieldsP]
  by_cases h1 : a = a' <;> by_cases h2 : b = b' <;> simp [prb, prp, p0, p1, q2, pureRun, h1, h2]
theorem eqP (a b a' b' : Int) : eqEv Tryd.prog 53 (.struct fieldsP) (.agg [.int .i64 a, .int .i64 b]) (.agg [.int .i64 a', .int .i64 b']) = some (decide (a = a' ∧ b = b')) := by
  have hc : ∀ a b : Int, conc (.agg [.int .i64 a, .int .i64 b]) = some (.agg #[.int .i64 a, .int .i64 b]) := fun _ _ => rfl
  have hg : pureRun Tryd.prog (eqGuard .eql 53 (.tmp 0) (.tmp 0) (.agg #[.int .i64 a, .int .i64 b]) (.agg #[.int .i64 a', .int .i64 b'])) = some () := by
    unfold eqGuard
    simp only [prb, program, pureRun, Option.bind_some]
    simp [prb, prp, pureRun, guardP, program]
  unfold eqEv
  simp only [hc]
  simp only [prb, hg, Option.bind_some, equalP]
attribute [-simp] Am.binEv Am.intBin Am.read1
attribute [local simp] binEv_lss binEv_leq binEv_gtr binEv_geq binEv_eql binEv_neq binEv_add binEv_sub binEv_mul binEv_shr58 read1_ro read1_mu
variable {R : Ro}
def S0 (n : Nat) : List LB := List.replicate n ⟨[], 0⟩
theorem zeros_get : ∀ (n i : Nat), i < n → (zerosEv [AV.nilslice, .int .i64 0] n)[i * 2]? = some .nilslice ∧ (zerosEv [AV.nilslice, .int .i64 0] n)[i * 2 + 1]? = some (.int .i64 0)
  | 0, i, h => by omega
  | n + 1, 0, h => by simp [zerosEv]
  | n + 1, i + 1, h => by
    have := zeros_get n i (by omega)
    have e1 : (i + 1) * 2 = i * 2 + 1 + 1 := by omega
    have e2 : (i + 1) * 2 + 1 = i * 2 + 1 + 1 + 1 := by omega
    rw [e2, e1]
    simpa [zerosEv] using this
theorem zeros_len2 : ∀ n, (zerosEv [AV.nilslice, .int .i64 0] n).length = n * 2
  | 0 => rfl
  | n + 1 => by simp [zerosEv, zeros_len2 n]; omega
theorem new_ok {H : AH} {l : Nat} {up dn : List Nat} (hL : LatAt R H l up dn) : ACalls Tryd.prog R 10 [.ptr (.mu l) 0] H fun v H' => v = .ptr (.mu (H.length + 1)) 0 ∧ At H' (H.length + 1) l H.length (zerosEv [AV.nilslice, .int .i64 0] up.length) (S0 up.length) (List.replicate up.length .nilslice) ∧ Keeps H H' ∧ ∀ i, Own (H.length + 1) H.length (List.replicate up.length AV.nilslice) i → H.length ≤ i := by
  have hle := hL.le
  have hz : ∀ n, (zerosEv [AV.nilslice, .int .i64 0] n).all AV.oneCell = true := fun n => by
    induction n with
    | zero => rfl
    | succ n ih => simp only [zerosEv, List.all_append, ih]; rfl
  refine ACalls.of_wpE Fns.ok10 (by simp [Fns.a10]) ?_
  simp [Fns.a10]
  refine (len_ok hL).mono ?_
  rintro v H ⟨rfl, rfl⟩
  have h1 : (32 : Int) * (up.length : Int) ≤ 281474976710656 := by omega
  have h2 : (up.length : Int) ≤ 9223372036854775807 := by omega
  simp [h1, h2, fillA, splice]
  refine ⟨⟨?_, ?_, ?_, ?_, ?_, ?_⟩, ?_, ?_⟩
  · simp [S0]
  · simp
  · rw [zeros_len2]; simp [S0]
  · simp [S0]
  · intro i x cv hx hc
    simp only [S0, List.getElem?_replicate] at hx hc
    split at hx
    · rename_i hi
      rw [if_pos hi] at hc
      cases hx; cases hc
      obtain ⟨z1, z2⟩ := zeros_get up.length i hi
      exact ⟨z1, z2, RowAt.nil _ _ _⟩
    · cases hx
  · intro i i' a o n c o' n' c' hi
    rw [List.getElem?_replicate] at hi
    split at hi <;> cases hi
  · exact Keeps.app _ _
  · rintro i (rfl | rfl | ⟨o, n, c, hc⟩)
    · omega
    · omega
    · have := List.eq_of_mem_replicate hc; cases this
abbrev Act := Int × Int × Int × List UInt8
def Act.cells (x : Act) : List AV := [.int .i64 x.1, .int .i64 x.2.1, .int .i64 x.2.2.1, .str x.2.2.2]
theorem acts_of : ∀ {L : List (List AV)}, (∀ x ∈ L, Shape [.int .i64, .int .i64, .int .i64, .str] x) → ∃ A : List Act, L = A.map Act.cells
  | [], _ => ⟨[], rfl⟩
  | x :: L, h => by
    obtain ⟨P, rfl⟩ := acts_of (fun y hy => h y (List.mem_cons_of_mem _ hy))
    obtain ⟨v, r, h1, ⟨z, rfl, _⟩, v2, r2, h2, ⟨z2, rfl, _⟩, v3, r3, h3, ⟨z3, rfl, _⟩, v4, r4, h4, ⟨t, rfl, _⟩, h5⟩ := h x (List.mem_cons_self ..)
    cases (show r4 = [] from h5)
    subst h4 h3 h2 h1
    exact ⟨(z, z2, z3, t) :: P, rfl⟩
def Acts (R : Ro) (a : AV) (A : List Act) : Prop := Sl R 4 a (A.map Act.cells)
theorem Acts.len {a : AV} {A : List Act} (h : Acts R a A) : (a = .nilslice ∧ A.length = 0) ∨ ∃ b off cap, a = .slice (.ro b) off A.length (.known cap) := by
  rcases h with ⟨h, hL⟩ | ⟨b, off, cap, h, _⟩
  · exact .inl ⟨h, by simpa using hL⟩
  · exact .inr ⟨b, off, cap, by simpa using h⟩
theorem Acts.at {a : AV} {A : List Act} (h : Acts R a A) {i : Nat} (hi : i < A.length) : ∃ b off cap, a = .slice (.ro b) off A.length (.known cap) ∧ R b (off + i * 4) = some (.int .i64 A[i].1) ∧ R b (off + i * 4 + 1) = some (.int .i64 A[i].2.1) ∧ R b (off + i * 4 + 2) = some (.int .i64 A[i].2.2.1) ∧ R b (off + i * 4 + 3) = some (.str A[i].2.2.2) := by
  obtain ⟨b, off, cap, ha, hc⟩ := Sl.at h (show i < (A.map Act.cells).length by simpa using hi)
  refine ⟨b, off, cap, by simpa using ha, ?_, ?_, ?_, ?_⟩
  · exact hc 0 _ (by simp [Act.cells])
  · exact hc 1 _ (by simp [Act.cells])
  · exact hc 2 _ (by simp [Act.cells])
  · exact hc 3 _ (by simp [Act.cells])
theorem great_nil (H : AH) {a : AV} {A : List Act} (h : Acts R a A) : ACalls Tryd.prog R 7 [.nilslice, a] H fun v H' => H' = H ∧ ∃ b, v = .bool b ∧ (b = false → A.length ≤ 150) := by
  have hlen := h.len
  refine ACalls.of_wpE Fns.ok7 (by simp [Fns.a7]) ?_
  simp [Fns.a7]
  refine AWp.loop (fun e H' => H' = H ∧ e 0 = .nilslice ∧ e 1 = a ∧ ∃ (i : Nat) (z : Int), e 6 = .int .i64 i ∧ e 5 = .int .i64 z ∧ i ≤ 151) (fun e _ => match e 6 with | .int _ i => (151 - i).toNat | _ => 0) ⟨rfl, rfl, rfl, 0, 0, rfl, rfl, by omega⟩ ?_
  rintro e H' ⟨rfl, h0, h1, i, z, h6, h5, hi⟩
  refine wpE_sound _ ?_
  have hout : ∀ (e : Env), e 0 = .nilslice → e 1 = a → e 5 = .int .i64 z → True := fun _ _ _ _ => trivial
  by_cases hlt : i < A.length ∧ i ≤ 150
  · obtain ⟨b, off, cap, ha', r0, r1, r2, r3⟩ := h.at hlt.1
    have hlt1 := hlt.1
    have hlt' : (i : Int) < (A.length : Int) := by omega
    have hle' : (i : Int) ≤ 150 := by omega
    have hw1 := i64_small ((i : Int) + 1) (by omega) (by omega)
    rw [ha'] at h1
    simp [h0, h1, h6, h5, hlt1, hlt', hle', r3, foldI, hw1]
    exact ⟨⟨by rw [ha'], ⟨i + 1, by simp, by omega⟩⟩, by omega⟩
  · have hend : ∀ (e : Env) (H : AH) (K : Env → AH → Prop), True := fun _ _ _ => trivial
    rcases hlen with ⟨rfl, hA0⟩ | ⟨b, off, cap, rfl⟩
    · have hnl : ¬ (i : Int) < 0 := by omega
      simp [h0, h1, h6, h5, hnl]
      refine AWp.loop (fun e' H'' => H'' = H' ∧ e' 0 = .nilslice ∧ e' 1 = .nilslice ∧ e' 5 = .int .i64 z ∧ e' 7 = .int .i64 0) (fun _ _ => 0) ⟨rfl, by simp [h0], by simp [h1], by simp [h5], by simp⟩ ?_
      rintro e' H'' ⟨rfl, g0, g1, g5, g7⟩
      refine wpE_sound _ ?_
      simp [g0, g1, g5, g7]
      omega
    · have hcase : ¬ ((i : Int) < (A.length : Int)) ∨ ((i : Int) < (A.length : Int) ∧ ¬ (i : Int) ≤ 150) := by omega
      refine (?_ : _ → _) hcase
      rintro (hc1 | ⟨hc1, hc2⟩)
      · have hc1' : ¬ i < A.length := by omega
        have hAl : A.length ≤ 151 := by omega
        simp [h0, h1, h6, h5, hc1, hc1']
        refine AWp.loop (fun e' H'' => H'' = H' ∧ e' 0 = .nilslice ∧ e' 1 = .slice (.ro b) off A.length (.known cap) ∧ e' 5 = .int .i64 z ∧ e' 7 = .int .i64 0) (fun _ _ => 0) ⟨rfl, by simp [h0], by simp [h1], by simp [h5], by simp⟩ ?_
        rintro e' H'' ⟨rfl, g0, g1, g5, g7⟩
        refine wpE_sound _ ?_
        by_cases hb : 150 < A.length
        · have hb' : (150 : Int) < (A.length : Int) := by omega
          simp [g0, g1, g5, g7, hb, hb']
        · have hb' : ¬ (150 : Int) < (A.length : Int) := by omega
          simp [g0, g1, g5, g7, hb, hb']
          omega
      · have hc1' : i < A.length := by omega
        have hc2' : ¬ i ≤ 150 := by omega
        have hb : 150 < A.length := by omega
        have hb' : (150 : Int) < (A.length : Int) := by omega
        simp [h0, h1, h6, h5, hc1, hc1', hc2, hc2']
        refine AWp.loop (fun e' H'' => H'' = H' ∧ e' 0 = .nilslice ∧ e' 1 = .slice (.ro b) off A.length (.known cap) ∧ e' 5 = .int .i64 z ∧ e' 7 = .int .i64 0) (fun _ _ => 0) ⟨rfl, by simp [h0], by simp [h1], by simp [h5], by simp⟩ ?_
        rintro e' H'' ⟨rfl, g0, g1, g5, g7⟩
        refine wpE_sound _ ?_
        simp [g0, g1, g5, g7, hb, hb']
end Go.Proofs.YtjncbipaikmogaaDoor.Bf
