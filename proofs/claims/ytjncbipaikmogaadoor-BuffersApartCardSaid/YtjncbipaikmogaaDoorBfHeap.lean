/- Buffers, as they lie there; what only looks at them. -/
import Derived.Test.YtjncbipaikmogaaDoorCtrs
import Derived.Test.YtjncbipaikmogaaDoorLatGood
import Derived.Test.YtjncbipaikmogaaDoorLatLook
import Derived.Test.YtjncbipaikmogaaDoorLatDown
import Derived.Test.YtjncbipaikmogaaDoorAmApp
import Derived.Test.YtjncbipaikmogaaDoorAmFlat
import Derived.Test.YtjncbipaikmogaaDoorAmInts
import Derived.Test.YtjncbipaikmogaaDoorAmSched
namespace Go.Proofs.YtjncbipaikmogaaDoor.Bf
open Go Go.RowKit Am Latt
set_option maxRecDepth 100000
set_option linter.unusedSimpArgs false
set_option linter.unusedVariables false
attribute [-simp] Am.binEv Am.intBin Am.read1
attribute [local simp] binEv_lss binEv_leq binEv_gtr binEv_geq binEv_eql binEv_neq binEv_add binEv_sub binEv_mul binEv_shr58 read1_ro read1_mu
variable {R : Ro}
abbrev TX := Int × List UInt8
structure LB where
  l : List TX
  given : Int
def txt : List TX → List AV
  | [] => []
  | p :: l => .int .i64 p.1 :: .str p.2 :: txt l
theorem txt_len : ∀ l, (txt l).length = l.length * 2
  | [] => rfl
  | p :: l => by simp [txt, txt_len l]; omega
theorem txt_get : ∀ (l : List TX) (i : Nat) (p : TX), l[i]? = some p → (txt l)[i * 2]? = some (.int .i64 p.1) ∧ (txt l)[i * 2 + 1]? = some (.str p.2)
  | [], i, p, h => by simp at h
  | q :: l, 0, p, h => by simp at h; subst h; simp [txt]
  | q :: l, i + 1, p, h => by
    have := txt_get l i p (by simpa using h)
    have e1 : (i + 1) * 2 = i * 2 + 1 + 1 := by omega
    have e2 : (i + 1) * 2 + 1 = i * 2 + 1 + 1 + 1 := by omega
    rw [e2, e1]
    exact this
theorem txt_one : ∀ l, (txt l).all AV.oneCell = true
  | [] => rfl
  | p :: l => by simp only [txt, List.all_cons, txt_one l]; rfl
theorem txt_take : ∀ (l : List TX) (i : Nat), (txt l).take (i * 2) = txt (l.take i)
  | [], i => by simp [txt]
  | p :: l, 0 => by simp [txt]
  | p :: l, i + 1 => by
    have e1 : (i + 1) * 2 = i * 2 + 1 + 1 := by omega
    rw [e1]; simp [txt, txt_take l i]
theorem txt_drop : ∀ (l : List TX) (i : Nat), (txt l).drop (i * 2) = txt (l.drop i)
  | [], i => by simp [txt]
  | p :: l, 0 => by simp [txt]
  | p :: l, i + 1 => by
    have e1 : (i + 1) * 2 = i * 2 + 1 + 1 := by omega
    rw [e1]; simp [txt, txt_drop l i]
theorem txt_app : ∀ (l m : List TX), txt l ++ txt m = txt (l ++ m)
  | [], m => rfl
  | p :: l, m => by simp [txt, txt_app l m]
/-- Where a number stands at first. -/
def fi : List TX → Int → Option Nat
  | [], _ => none
  | p :: l, n => if p.1 = n then some 0 else (fi l n).map (· + 1)
def fv : Option Nat → Int
  | none => -1
  | some k => k
theorem fi_none : ∀ {l : List TX} {n : Int}, (∀ p ∈ l, p.1 ≠ n) → fi l n = none
  | [], _, _ => rfl
  | p :: l, n, h => by
    rw [fi, if_neg (h p (List.mem_cons_self ..)), fi_none fun q hq => h q (List.mem_cons_of_mem _ hq)]; rfl
theorem fi_some : ∀ {l : List TX} {n : Int} {k : Nat} {p : TX}, l[k]? = some p → p.1 = n → (∀ j, j < k → ∀ q, l[j]? = some q → q.1 ≠ n) → fi l n = some k
  | [], _, _, _, h, _, _ => by simp at h
  | q :: l, n, 0, p, h, hp, _ => by simp at h; subst h; rw [fi, if_pos hp]
  | q :: l, n, k + 1, p, h, hp, hj => by
    rw [fi, if_neg (hj 0 (by omega) q rfl), fi_some (l := l) (k := k) (p := p) (by simpa using h) hp fun j hjk r hr => hj (j + 1) (by omega) r (by simpa using hr)]; rfl
theorem fi_get : ∀ {l : List TX} {n : Int} {k : Nat}, fi l n = some k → ∃ p, l[k]? = some p ∧ p.1 = n
  | [], _, _, h => by cases h
  | q :: l, n, k, h => by
    rw [fi] at h
    split at h
    · cases h; exact ⟨q, rfl, ‹_›⟩
    · simp only [Option.map_eq_some_iff] at h
      obtain ⟨j, hj, rfl⟩ := h
      obtain ⟨p, h1, h2⟩ := fi_get hj
      exact ⟨p, by simpa using h1, h2⟩
theorem fi_not : ∀ {l : List TX} {n : Int}, fi l n = none → ∀ p ∈ l, p.1 ≠ n
  | [], _, _, p, hp => by cases hp
  | q :: l, n, h, p, hp => by
    rw [fi] at h
    split at h
    · cases h
    · simp only [Option.map_eq_none_iff] at h
      rcases List.mem_cons.1 hp with rfl | hp
      · assumption
      · exact fi_not h p hp
/-- All. -/
structure At (H : AH) (b l r : Nat) (C : List AV) (S : List LB) (cs : List AV) : Prop where
  box : H[b]? = some (.cells [.ptr (.mu l) 0, .slice (.mu r) 0 S.length (.known S.length)] 82)
  row : H[r]? = some (.cells C 87)
  cl : C.length = S.length * 2
  lc : cs.length = S.length
  one : ∀ (i : Nat) x cv, S[i]? = some x → cs[i]? = some cv → C[i * 2]? = some cv ∧ C[i * 2 + 1]? = some (.int .i64 x.given) ∧ RowAt H cv x.l.length 2 90 (txt x.l)
  csd : ∀ (i i' a : Nat) o n c o' n' c', cs[i]? = some (.slice (.mu a) o n c) → cs[i']? = some (.slice (.mu a) o' n' c') → i = i'
def Own (b r : Nat) (cs : List AV) (i : Nat) : Prop := i = b ∨ i = r ∨ ∃ o n c, AV.slice (.mu i) o n c ∈ cs
theorem At.frame {H H' : AH} {b l r : Nat} {C : List AV} {S : List LB} {cs : List AV} (h : At H b l r C S cs) (hf : ∀ i, Own b r cs i → H'[i]? = H[i]?) : At H' b l r C S cs := by
  refine ⟨by rw [hf b (.inl rfl)]; exact h.box, by rw [hf r (.inr (.inl rfl))]; exact h.row, h.cl, h.lc, fun i x cv hx hc => ?_, h.csd⟩
  obtain ⟨o1, o2, o3⟩ := h.one i x cv hx hc
  exact ⟨o1, o2, o3.frame fun j hj => hf j (.inr (.inr ⟨_, _, _, by rw [← hj]; exact List.mem_of_getElem? hc⟩))⟩
theorem At.kind {H : AH} {b l r : Nat} {C : List AV} {S : List LB} {cs : List AV} (h : At H b l r C S cs) {i : Nat} (hi : Own b r cs i) : (∃ c, H[i]? = some (.cells c 82)) ∨ (∃ c, H[i]? = some (.cells c 87)) ∨ ∃ c, H[i]? = some (.row c 90 2) := by
  rcases hi with rfl | rfl | ⟨o, n, c, hc⟩
  · exact .inl ⟨_, h.box⟩
  · exact .inr (.inl ⟨_, h.row⟩)
  · obtain ⟨k, hk, hk2⟩ := List.mem_iff_getElem.1 hc
    have hks : k < S.length := by rw [← h.lc]; exact hk
    obtain ⟨_, _, o3⟩ := h.one k _ _ (List.getElem?_eq_getElem hks) (List.getElem?_eq_getElem hk)
    rw [hk2] at o3
    rcases o3 with ⟨e, _⟩ | ⟨j, e, hj, _⟩
    · cases e
    · cases e; exact .inr (.inr ⟨_, hj⟩)
theorem At.lt {H : AH} {b l r : Nat} {C : List AV} {S : List LB} {cs : List AV} (h : At H b l r C S cs) {i : Nat} (hi : Own b r cs i) : i < H.length := by
  rcases h.kind hi with ⟨_, e⟩ | ⟨_, e⟩ | ⟨_, e⟩ <;> exact (List.getElem?_eq_some_iff.1 e).1
theorem At.get {H : AH} {b l r : Nat} {C : List AV} {S : List LB} {cs : List AV} (h : At H b l r C S cs) {i : Nat} (hi : i < S.length) :
    ∃ cv, cs[i]? = some cv ∧ C[i * 2]? = some cv ∧ C[i * 2 + 1]? = some (.int .i64 S[i].given) ∧ RowAt H cv S[i].l.length 2 90 (txt S[i].l) := by
  have hc : cs[i]? = some (cs[i]'(by rw [h.lc]; exact hi)) := List.getElem?_eq_getElem _
  exact ⟨_, hc, h.one i _ _ (List.getElem?_eq_getElem hi) hc⟩
def atV (r : Nat) (n : Nat) (a : Int) : AV := if isL n a then .ptr (.mu r) (a.toNat * 2) else .nilptr
theorem at_ok {H : AH} {b l r : Nat} {C : List AV} {S : List LB} {cs : List AV} (h : At H b l r C S cs) (a : Int) : ACalls Tryd.prog R 28 [.ptr (.mu b) 0, .int .i64 a] H fun v H' => v = atV r S.length a ∧ H' = H := by
  have hb := h.box
  refine ACalls.of_wpE Fns.ok28 (by simp [Fns.a28]) ?_
  simp [Fns.a28, eqEv, hb]
  by_cases h1 : a < 0
  · have : isL S.length a = false := by simp [isL]; omega
    simp [h1, atV, this]
  by_cases h2 : (S.length : Int) ≤ a
  · have : isL S.length a = false := by simp [isL]; omega
    simp [h1, h2, hb, atV, this]
  · have h3 : isL S.length a = true := by simp [isL]; omega
    have h4 : 0 ≤ a ∧ a < (S.length : Int) := by omega
    simp [h1, h2, hb, atV, h3, h4]
theorem eq_fn {H : AH} (m n : Int) (s : List UInt8) {q : Nat} (hq : H[q]? = some (.cells [.int .i64 n] 3)) : ACalls Tryd.prog R 51 [.agg [.int .i64 m, .str s], .ptr (.mu q) 0] H fun v H' => H' = H ∧ v = .bool (decide (m = n)) := by
  refine ACalls.gc ?_
  refine ACalls.of_wpE Fns.ok51 (by simp [Fns.a51]) ?_
  have hql := (List.getElem?_eq_some_iff.1 hq).1
  have h1 : (H ++ [AO.cells [AV.int .i64 m, AV.str s] 90])[q]? = some (.cells [.int .i64 n] 3) := by rw [List.getElem?_append_left hql]; exact hq
  simp [Fns.a51, h1, ren]
theorem index_fn {H : AH} {q : Nat} {n : Int} {cv : AV} {l : List TX} (hq : H[q]? = some (.cells [.int .i64 n] 3)) (hr : RowAt H cv l.length 2 90 (txt l)) (hl : l.length ≤ 140737488355328) :
    ACalls Tryd.prog R 50 [cv, .fn (.func 51) [] [.ptr (.mu q) 0]] H fun v H' => H' = H ∧ v = .int .i64 (fv (fi l n)) := by
  refine ACalls.of_wpE Fns.ok50 (by simp [Fns.a50]) ?_
  rcases hr with ⟨rfl, h0, _⟩ | ⟨j, rfl, hj, hC⟩
  · have : l = [] := List.eq_nil_of_length_eq_zero h0
    subst this
    simp [Fns.a50]
    refine AWp.loop (fun e H' => H' = H ∧ e 7 = .int .i64 0 ∧ e 8 = .int .i64 0) (fun _ _ => 0) ⟨rfl, rfl, rfl⟩ ?_
    rintro e H' ⟨rfl, h7, h8⟩
    refine wpE_sound _ ?_
    simp [h7, h8, fi, fv]
  · simp [Fns.a50]
    refine AWp.loop (fun e H' => H' = H ∧ e 0 = .slice (.mu j) 0 l.length (.opn 0) ∧ e 1 = .fn (.func 51) [] [.ptr (.mu q) 0] ∧ e 7 = .int .i64 l.length ∧ ∃ i : Nat, e 8 = .int .i64 i ∧ i ≤ l.length ∧ ∀ k, k < i → ∀ p, l[k]? = some p → p.1 ≠ n) (fun e _ => match e 8 with | .int _ i => ((l.length : Int) - i).toNat | _ => 0) ⟨rfl, rfl, rfl, rfl, 0, rfl, by omega, fun k hk => by omega⟩ ?_
    rintro e H' ⟨rfl, h0, h1, h7, i, h8, hi, hno⟩
    refine wpE_sound _ ?_
    by_cases hlt : i < l.length
    · have hlt' : (i : Int) < (l.length : Int) := by omega
      have hw1 := i64_small ((i : Int) + 1) (by omega) (by omega)
      have hp : l[i]? = some l[i] := List.getElem?_eq_getElem hlt
      obtain ⟨c0, c1⟩ := txt_get l i _ hp
      have hrd : ((txt l).drop (i * 2)).take 2 = [.int .i64 l[i].1, .str l[i].2] := by
        have e1 : i * 2 < (txt l).length := by rw [txt_len]; omega
        have e2 : i * 2 + 1 < (txt l).length := by rw [txt_len]; omega
        rw [List.drop_eq_getElem_cons e1, List.drop_eq_getElem_cons e2]
        rw [List.getElem?_eq_getElem e1] at c0
        rw [List.getElem?_eq_getElem e2] at c1
        simp only [Option.some.injEq] at c0 c1
        simp [c0, c1]
      have hfit : i * 2 + 2 ≤ (txt l).length := by rw [txt_len]; omega
      have hfn := eq_fn (R := R) l[i].1 n l[i].2 hq
      simp [h0, h1, h7, h8, hlt, hlt', hj, hrd, hfit, fnArgs]
      refine ⟨by kernel_rfl, ?_⟩
      refine hfn.mono ?_
      rintro v H1 ⟨rfl, rfl⟩
      by_cases he : l[i].1 = n
      · have := fi_some hp he hno
        simp [he, this, fv]
      · simp [he, h0, h1, h7, h8, hw1]
        refine ⟨⟨i + 1, by simp, by omega, fun k hk p1 p2 hkp => ?_⟩, by omega⟩
        by_cases hki : k = i
        · subst hki; rw [hp] at hkp; simp only [Option.some.injEq] at hkp; rw [hkp] at he; exact he
        · exact hno k (by omega) (p1, p2) hkp
    · obtain rfl : i = l.length := by omega
      have : fi l n = none := fi_none fun p hp => by
        obtain ⟨k, hk, hk2⟩ := List.mem_iff_getElem.1 hp
        exact hno k hk p (by rw [← hk2]; exact List.getElem?_eq_getElem hk)
      simp [h7, h8, this, fv]
theorem find_nil (H : AH) (n : Int) : ACalls Tryd.prog R 32 [.nilptr, .int .i64 n] H fun v H' => H' = H ∧ v = .int .i64 (-1) := by
  refine ACalls.gc ?_
  refine ACalls.of_wpE Fns.ok32 (by simp [Fns.a32]) ?_
  simp [Fns.a32, ren]
theorem find_ok {H : AH} {b l r : Nat} {C : List AV} {S : List LB} {cs : List AV} (h : At H b l r C S cs) {an : Nat} (ha : an < S.length) (hl : S[an].l.length ≤ 140737488355328) (n : Int) : ACalls Tryd.prog R 32 [.ptr (.mu r) (an * 2), .int .i64 n] H fun v H' => H' = H ∧ v = .int .i64 (fv (fi S[an].l n)) := by
  refine ACalls.gc ?_
  refine ACalls.of_wpE Fns.ok32 (by simp [Fns.a32]) ?_
  obtain ⟨cv, _, c0, _, hr⟩ := h.get ha
  have hrl := (List.getElem?_eq_some_iff.1 h.row).1
  have hr1 : (H ++ [AO.cells [AV.int .i64 n] 3])[r]? = some (.cells C 87) := by rw [List.getElem?_append_left hrl]; exact h.row
  simp [Fns.a32, hr1, c0]
  refine (index_fn (H := H ++ [AO.cells [AV.int .i64 n] 3]) (q := H.length) (n := n) (by simp) (hr.frame fun j hj => ?_) hl).mono ?_
  · rcases hr with ⟨e, _⟩ | ⟨j', e, hj', _⟩
    · rw [hj] at e; cases e
    · rw [hj] at e; cases e
      rw [List.getElem?_append_left (List.getElem?_eq_some_iff.1 hj').1]
  · rintro v H' ⟨rfl, rfl⟩
    simp [ren]
end Go.Proofs.YtjncbipaikmogaaDoor.Bf
