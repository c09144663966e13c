/- slices.Insert, slices.Delete: of slices of the call's own, whatever their elements. -/
import Derived.Test.YtbcfhiohdamcjaaAmIns
import Derived.Test.YtbcfhiohdamcjaaAmSched
import Derived.Test.YtbcfhiohdamcjaaAmBits
set_option linter.unusedSimpArgs false
set_option linter.unusedVariables false
set_option linter.unusedSectionVars false
set_option linter.unnecessarySimpa false
namespace Am
open Go Go.RowKit
set_option linter.unusedSimpArgs false
set_option linter.unusedVariables false
section
variable {P : Program} {R : Ro}
theorem sl_hi {H : AH} {sz n c i : Nat} {l : Loc} {k : IntKind} (h : i ≤ c) : sliceEv H sz (.slice l 0 n (.known c)) none (some (.int k i)) none = some (.slice l 0 i (.known c), H) := by
  have h2 : (i : Int) ≤ c := by omega
  simp [sliceEv, boundEv, h2, h]
theorem sl_lo {H : AH} {sz n c i : Nat} {l : Loc} {k : IntKind} (h : i ≤ n) (hc : c ≠ i) : sliceEv H sz (.slice l 0 n (.known c)) (some (.int k i)) none none = some (.slice l (i * sz) (n - i) (.known (c - i)), H) := by
  have h2 : (i : Int) ≤ n := by omega
  simp [sliceEv, boundEv, h2, h, hc]
theorem sl_all {H : AH} {sz n c i j : Nat} {l : Loc} {k k' k2 : IntKind} (h : i ≤ j) (hj : j ≤ n) (hn : n ≤ c) : sliceEv H sz (.slice l 0 n (.known c)) (some (.int k i)) (some (.int k' j)) (some (.int k2 n)) = some (.slice l (if n = i then 0 else i * sz) (j - i) (.known (n - i)), H) := by
  have h1 : (n : Int) ≤ c := by omega
  have h2 : (i : Int) ≤ j := by omega
  have h3 : (j : Int) ≤ n := by omega
  simp [sliceEv, boundEv, h1, h2, h3]
theorem sl_opn {H : AH} {sz n i j : Nat} {c : List AV} {t : TypeId} {k : IntKind} (hj : H[j]? = some (.row c t sz)) (hl : c.length = n * sz) (hsz : sz ≠ 0) (h : i < n) : sliceEv H sz (.slice (.mu j) 0 n (.opn 0)) (some (.int k i)) none none = some (.slice (.mu j) (i * sz) (n - i) (.opn i), H) := by
  have h2 : (i : Int) ≤ n := by omega
  have h3 : (n * sz) / sz = n := Nat.mul_div_cancel _ (Nat.pos_of_ne_zero hsz)
  by_cases h0 : i = 0
  · subst h0; simp [sliceEv, boundEv, hj, hl, hsz, h3]
  · simp [sliceEv, boundEv, hj, hl, hsz, h3, h2, h0, h]
/-- A copy between two objects (or within one). -/
theorem copyEv {H : AH} {sz a b off off' dn sn q : Nat} {cp cp' : Cap} {ca cb src : List AV} {oa ob : AO} {e : Env} {d s : X} (hd : d.ev e = .slice (.mu a) off dn cp) (hs : s.ev e = .slice (.mu b) off' sn cp') (hb : H[b]? = some ob) (hbc : ob.content = some cb) (ha : H[a]? = some oa) (hac : oa.content = some ca)
    (hq : min sn dn = q) (hsrc : (cb.drop off').take (q * sz) = src) (hfit : off' + q * sz ≤ cb.length) (hfa : off + q * sz ≤ ca.length) (hone : src.all AV.oneCell = true) :
    (AOp.copy sz d s).eval P R e H = some (.int .i64 q, H.set a (oa.withContent (splice ca off src))) := by
  have hsl : src.length = q * sz := by rw [← hsrc, List.length_take, List.length_drop]; omega
  have h1 : min (sn : Int) dn = q := by omega
  have hone' : ∀ x ∈ src, x.oneCell = true := List.all_eq_true.1 hone
  simp only [AOp.eval, hd, hs, readN, hb, Option.bind_some, hbc, hq]
  rw [if_pos hfit]
  simp only [hsrc, writeN, ha, hac, hsl]
  rw [if_pos ⟨hfa, hone⟩]
  simp [h1]
end
theorem ins_list {α : Type} {c junk V : List α} {p q L : Nat} (hc : c.length = L) (hV : V.length = q) (hp : p ≤ L) (hj : q ≤ junk.length) :
    (splice (splice (c ++ junk) (p + q) (c.drop p)) p V).take (L + q) = c.take p ++ V ++ c.drop p := by
  have e1 : (c ++ junk).take (p + q) = (c ++ junk).take p ++ ((c ++ junk).drop p).take q := List.take_add
  have e2 : (c ++ junk).take p = c.take p := List.take_append_of_le_length (by omega)
  unfold splice
  have l1 : (((c ++ junk).drop p).take q).length = q := by simp; omega
  have l0 : (c.take p).length = p := by simp; omega
  rw [e1, e2]
  have e3 : (c.take p ++ ((c ++ junk).drop p).take q ++ c.drop p ++ (c ++ junk).drop (p + q + (c.drop p).length)).take p = c.take p := by
    rw [List.append_assoc, List.append_assoc, List.take_left' l0]
  have e4 : (c.take p ++ ((c ++ junk).drop p).take q ++ c.drop p ++ (c ++ junk).drop (p + q + (c.drop p).length)).drop (p + V.length) = c.drop p ++ (c ++ junk).drop (p + q + (c.drop p).length) := by
    rw [List.append_assoc, List.drop_left' (by rw [List.length_append, l0, l1, hV])]
  rw [e3, e4, ← List.append_assoc]
  exact List.take_left' (by simp; omega)
theorem del_list {α : Type} {c junk z : List α} {p q L : Nat} (hc : c.length = L) (hp : p + q ≤ L) : (splice (splice (c ++ junk) p (c.drop (p + q))) (L - q) z).take (L - q) = c.take p ++ c.drop (p + q) := by
  have e2 : (c ++ junk).take p = c.take p := List.take_append_of_le_length (by omega)
  have e3 : (splice (c ++ junk) p (c.drop (p + q))).take (L - q) = c.take p ++ c.drop (p + q) := by
    unfold splice
    rw [e2]
    exact List.take_left' (by simp; omega)
  rw [← e3]
  have e4 : L - q ≤ (splice (c ++ junk) p (c.drop (p + q))).length := by
    rw [splice_length _ _ _ (by simp; omega)]; simp; omega
  generalize splice (c ++ junk) p (c.drop (p + q)) = X at e4
  unfold splice
  rw [List.append_assoc]
  exact List.take_left' (by simp; omega)
/-- slices.Insert. -/
def insF (tE sz by' : Nat) (z : List AV) (ov or_ : Array TypeId) (rot : Nat) : AFn := ⟨95, [.tmp 6], .seq
   (.ops [⟨(some 6), none, .mv (.c .nilslice)⟩])
   (.seq
    (.ops [⟨(some 10), none, .mv (.t 0)⟩,
      ⟨(some 11), none, .mv (.t 1)⟩,
      ⟨(some 12), none, .slice sz (.t 10) (some (.t 11)) none none⟩])
    (.seq
     (.ops [⟨(some 13), none, .mv (.t 2)⟩,
       ⟨(some 14), none, .lenL (.t 13)⟩,
       ⟨(some 7), none, .mv (.t 14)⟩])
     (.seq
      (.seq
       (.ops [⟨(some 15), none, .mv (.t 7)⟩,
         ⟨(some 16), none, .bin .eql (.t 15) (.c (.int .i64 0))⟩])
       (.cond (.t 16)
        (.seq
         (.ops [⟨(some 17), none, .mv (.t 0)⟩,
           ⟨(some 6), none, .mv (.t 17)⟩])
         (.ret))
        (.skip)))
      (.seq
       (.ops [⟨(some 18), none, .mv (.t 0)⟩,
         ⟨(some 19), none, .lenL (.t 18)⟩,
         ⟨(some 8), none, .mv (.t 19)⟩])
       (.seq
        (.seq
         (.ops [⟨(some 20), none, .mv (.t 1)⟩,
           ⟨(some 21), none, .mv (.t 8)⟩,
           ⟨(some 22), none, .bin .eql (.t 20) (.t 21)⟩])
         (.cond (.t 22)
          (.seq
           (.ops [⟨(some 23), none, .mv (.t 0)⟩,
             ⟨(some 24), none, .mv (.t 2)⟩,
             ⟨(some 25), none, .append tE sz by' (.t 23) (.t 24)⟩,
             ⟨(some 6), none, .mv (.t 25)⟩])
           (.ret))
          (.skip)))
        (.seq
         (.seq
          (.ops [⟨(some 26), none, .mv (.t 8)⟩,
            ⟨(some 27), none, .mv (.t 7)⟩,
            ⟨(some 28), none, .bin .add (.t 26) (.t 27)⟩,
            ⟨(some 29), none, .mv (.t 0)⟩,
            ⟨(some 30), none, .cap (.t 29)⟩,
            ⟨(some 31), none, .bin .gtr (.t 28) (.t 30)⟩])
          (.cond (.t 31)
           (.seq
            (.ops [⟨(some 32), none, .mv (.t 0)⟩,
              ⟨(some 33), none, .mv (.t 1)⟩,
              ⟨(some 34), none, .slice sz (.t 32) none (some (.t 33)) none⟩,
              ⟨(some 35), none, .mv (.t 8)⟩,
              ⟨(some 36), none, .mv (.t 7)⟩,
              ⟨(some 37), none, .bin .add (.t 35) (.t 36)⟩,
              ⟨(some 38), none, .mv (.t 1)⟩,
              ⟨(some 39), none, .bin .sub (.t 37) (.t 38)⟩,
              ⟨(some 40), none, .appz tE sz by' z (.t 34) (.t 39)⟩,
              ⟨(some 9), none, .mv (.t 40)⟩])
            (.seq
             (.ops [⟨(some 41), none, .mv (.t 9)⟩,
               ⟨(some 42), none, .mv (.t 1)⟩,
               ⟨(some 43), none, .slice sz (.t 41) (some (.t 42)) none none⟩,
               ⟨(some 44), none, .mv (.t 2)⟩,
               ⟨(some 45), none, .copy sz (.t 43) (.t 44)⟩])
             (.seq
              (.draw [⟨⟨(some 46), none, .mv (.t 9)⟩, []⟩,
                ⟨⟨(some 47), none, .mv (.t 1)⟩, []⟩,
                ⟨⟨(some 48), none, .mv (.t 7)⟩, []⟩,
                ⟨⟨(some 49), none, .bin .add (.t 47) (.t 48)⟩, [1, 2]⟩,
                ⟨⟨(some 50), none, .slice sz (.t 46) (some (.t 49)) none none⟩, [0, 3]⟩,
                ⟨⟨(some 51), none, .mv (.t 0)⟩, []⟩,
                ⟨⟨(some 52), none, .mv (.t 1)⟩, []⟩,
                ⟨⟨(some 53), none, .slice sz (.t 51) (some (.t 52)) none none⟩, [5, 6]⟩,
                ⟨⟨(some 54), none, .copy sz (.t 50) (.t 53)⟩, [4, 7]⟩] [0, 0, 0, 6, 15, 0, 0, 96, 255])
              (.seq
               (.ops [⟨(some 55), none, .mv (.t 9)⟩,
                 ⟨(some 6), none, .mv (.t 55)⟩])
               (.ret)))))
           (.skip)))
         (.seq
          (.ops [⟨(some 56), none, .mv (.t 0)⟩,
            ⟨(some 57), none, .mv (.t 8)⟩,
            ⟨(some 58), none, .mv (.t 7)⟩,
            ⟨(some 59), none, .bin .add (.t 57) (.t 58)⟩,
            ⟨(some 60), none, .slice sz (.t 56) none (some (.t 59)) none⟩,
            ⟨(some 0), none, .mv (.t 60)⟩])
          (.seq
           (.seq
            (.ops [⟨(some 61), none, .mv (.t 2)⟩,
              ⟨(some 62), none, .mv (.t 0)⟩,
              ⟨(some 63), none, .mv (.t 1)⟩,
              ⟨(some 64), none, .mv (.t 7)⟩,
              ⟨(some 65), none, .bin .add (.t 63) (.t 64)⟩,
              ⟨(some 66), none, .slice sz (.t 62) (some (.t 65)) none none⟩,
              ⟨(some 67), none, .atom (.overlaps ov or_) [(.t 61), (.t 66)]⟩,
              ⟨(some 68), none, .un .not (.t 67)⟩])
            (.cond (.t 68)
             (.seq
              (.draw [⟨⟨(some 69), none, .mv (.t 0)⟩, []⟩,
                ⟨⟨(some 70), none, .mv (.t 1)⟩, []⟩,
                ⟨⟨(some 71), none, .mv (.t 7)⟩, []⟩,
                ⟨⟨(some 72), none, .bin .add (.t 70) (.t 71)⟩, [1, 2]⟩,
                ⟨⟨(some 73), none, .slice sz (.t 69) (some (.t 72)) none none⟩, [0, 3]⟩,
                ⟨⟨(some 74), none, .mv (.t 0)⟩, []⟩,
                ⟨⟨(some 75), none, .mv (.t 1)⟩, []⟩,
                ⟨⟨(some 76), none, .slice sz (.t 74) (some (.t 75)) none none⟩, [5, 6]⟩,
                ⟨⟨(some 77), none, .copy sz (.t 73) (.t 76)⟩, [4, 7]⟩] [0, 0, 0, 6, 15, 0, 0, 96, 255])
              (.seq
               (.ops [⟨(some 78), none, .mv (.t 0)⟩,
                 ⟨(some 79), none, .mv (.t 1)⟩,
                 ⟨(some 80), none, .slice sz (.t 78) (some (.t 79)) none none⟩,
                 ⟨(some 81), none, .mv (.t 2)⟩,
                 ⟨(some 82), none, .copy sz (.t 80) (.t 81)⟩])
               (.seq
                (.ops [⟨(some 83), none, .mv (.t 0)⟩,
                  ⟨(some 6), none, .mv (.t 83)⟩])
                (.ret))))
             (.skip)))
           (.seq
            (.ops [⟨(some 84), none, .mv (.t 0)⟩,
              ⟨(some 85), none, .mv (.t 8)⟩,
              ⟨(some 86), none, .slice sz (.t 84) (some (.t 85)) none none⟩,
              ⟨(some 87), none, .mv (.t 2)⟩,
              ⟨(some 88), none, .copy sz (.t 86) (.t 87)⟩])
            (.seq
             (.ops [⟨(some 89), none, .mv (.t 0)⟩,
               ⟨(some 90), none, .mv (.t 1)⟩,
               ⟨(some 91), none, .slice sz (.t 89) (some (.t 90)) none none⟩,
               ⟨(some 92), none, .mv (.t 7)⟩,
               ⟨(some 93), none, .call rot [(.t 91), (.t 92)]⟩])
             (.seq
              (.ops [⟨(some 94), none, .mv (.t 0)⟩,
                ⟨(some 6), none, .mv (.t 94)⟩])
              (.ret))))))))))))⟩
/-- slices.Delete. -/
def delF (tE sz by' : Nat) (z : List AV) : AFn := ⟨33, [.tmp 6], .seq
   (.ops [⟨(some 6), none, .mv (.c .nilslice)⟩])
   (.seq
    (.ops [⟨(some 8), none, .mv (.t 0)⟩,
      ⟨(some 9), none, .mv (.t 1)⟩,
      ⟨(some 10), none, .mv (.t 2)⟩,
      ⟨(some 11), none, .mv (.t 0)⟩,
      ⟨(some 12), none, .lenL (.t 11)⟩,
      ⟨(some 13), none, .slice sz (.t 8) (some (.t 9)) (some (.t 10)) (some (.t 12))⟩])
    (.seq
     (.seq
      (.ops [⟨(some 14), none, .mv (.t 1)⟩,
        ⟨(some 15), none, .mv (.t 2)⟩,
        ⟨(some 16), none, .bin .eql (.t 14) (.t 15)⟩])
      (.cond (.t 16)
       (.seq
        (.ops [⟨(some 17), none, .mv (.t 0)⟩,
          ⟨(some 6), none, .mv (.t 17)⟩])
        (.ret))
       (.skip)))
     (.seq
      (.ops [⟨(some 18), none, .mv (.t 0)⟩,
        ⟨(some 19), none, .lenL (.t 18)⟩,
        ⟨(some 7), none, .mv (.t 19)⟩])
      (.seq
       (.draw [⟨⟨(some 20), none, .mv (.t 0)⟩, []⟩,
         ⟨⟨(some 21), none, .mv (.t 1)⟩, []⟩,
         ⟨⟨(some 22), none, .slice sz (.t 20) none (some (.t 21)) none⟩, [0, 1]⟩,
         ⟨⟨(some 23), none, .mv (.t 0)⟩, []⟩,
         ⟨⟨(some 24), none, .mv (.t 2)⟩, []⟩,
         ⟨⟨(some 25), none, .slice sz (.t 23) (some (.t 24)) none none⟩, [3, 4]⟩,
         ⟨⟨(some 26), none, .append tE sz by' (.t 22) (.t 25)⟩, [2, 5]⟩,
         ⟨⟨(some 0), none, .mv (.t 26)⟩, [6, 6, 0, 1, 2, 3, 4, 5, 6]⟩] [0, 0, 3, 0, 0, 24, 63, 127])
       (.seq
        (.ops [⟨(some 27), none, .mv (.t 0)⟩,
          ⟨(some 28), none, .mv (.t 0)⟩,
          ⟨(some 29), none, .lenL (.t 28)⟩,
          ⟨(some 30), none, .mv (.t 7)⟩,
          ⟨(some 31), none, .slice sz (.t 27) (some (.t 29)) (some (.t 30)) none⟩,
          ⟨none, none, .clearS sz z (.t 31)⟩])
        (.seq
         (.ops [⟨(some 32), none, .mv (.t 0)⟩,
           ⟨(some 6), none, .mv (.t 32)⟩])
         (.ret)))))))⟩
section
variable {P : Program} {R : Ro}
attribute [-simp] Am.binEv Am.intBin Am.read1
attribute [local simp] binEv_lss binEv_leq binEv_gtr binEv_geq binEv_eql binEv_neq binEv_add binEv_sub binEv_mul read1_ro read1_mu
theorem wrap_nat {x : Int} (h0 : 0 ≤ x) (h1 : x ≤ 140737488355328) : IntKind.i64.wrap x = x := by
  simp only [IntKind.wrap, IntKind.bits, IntKind.signed]; simp; omega
set_option maxHeartbeats 4000000 in
theorem ins_mat {f : FuncId} {tE sz by' rot : Nat} {z : List AV} {ov or_ : Array TypeId} (hm : P.follows .mixedOrders = true) (hf : FnOk P f (insF tE sz by' z ov or_ rot)) {H : AH} {j jv n i m cap : Nat} {c junk V : List AV} {tV : TypeId} {cv : Cap} (hz : z.length = sz)
    (hj : H[j]? = some (.cells (c ++ junk) tE)) (hV : H[jv]? = some (.cells V tV)) (hjv : jv ≠ j) (hlen : (c ++ junk).length = cap * sz) (hc : c.length = n * sz) (hVl : V.length = m * sz) (hi : i < n) (hm0 : 0 < m) (hsz : sz ≠ 0) (hby : by' ≠ 0) (hfit : (n + m) * by' ≤ 140737488355328) (hzo : z.all AV.oneCell = true) (hco : c.all AV.oneCell = true) (hVo : V.all AV.oneCell = true) :
    ACalls P R f [.slice (.mu j) 0 n (.known cap), .int .i64 i, .slice (.mu jv) 0 m cv] H (MatOut H j tE sz (n + m) (c.take (i * sz) ++ V ++ c.drop (i * sz)) cap) := by
  have hjl := (List.getElem?_eq_some_iff.1 hj).1
  have hvl := (List.getElem?_eq_some_iff.1 hV).1
  have hle2 : (n + m) * 1 ≤ (n + m) * by' := Nat.mul_le_mul_left _ (by omega)
  obtain ⟨nm, hnm⟩ : ∃ x, x = n + m := ⟨_, rfl⟩
  obtain ⟨im, him⟩ : ∃ x, x = i + m := ⟨_, rfl⟩
  obtain ⟨d, hd⟩ : ∃ x, x = n + m - i := ⟨_, rfl⟩
  have w1 : IntKind.i64.wrap ((n : Int) + m) = (nm : Int) := by rw [wrap_nat] <;> omega
  have w2 : IntKind.i64.wrap ((nm : Int) - i) = (d : Int) := by rw [wrap_nat] <;> omega
  have w3 : IntKind.i64.wrap ((i : Int) + m) = (im : Int) := by rw [wrap_nat] <;> omega
  have hne : ¬ (i : Int) = n := by omega
  have hmn : ¬ (m : Int) = 0 := by omega
  have hne2 : ¬ i = n := by omega
  have hmn2 : ¬ m = 0 := by omega
  have hncap : n ≤ cap := by
    rw [List.length_append, hc] at hlen
    exact Nat.le_of_mul_le_mul_right (by omega) (Nat.pos_of_ne_zero hsz)
  have hps : i * sz ≤ n * sz := Nat.mul_le_mul_right _ (by omega)
  have e1 : (i + m) * sz = i * sz + m * sz := Nat.add_mul ..
  have e2 : (n + m) * sz = n * sz + m * sz := Nat.add_mul ..
  have e3 : (n - i) * sz = n * sz - i * sz := Nat.sub_mul ..
  have e4 : d * sz = n * sz + m * sz - i * sz := by rw [hd, Nat.sub_mul, e2]
  have hDl : (c.take (i * sz) ++ V ++ c.drop (i * sz)).length = (n + m) * sz := by
    simp only [List.length_append, List.length_take, List.length_drop, hc, hVl]; omega
  refine ACalls.of_wpE hf (by simp [insF]) ?_
  simp [insF, sl_lo (H := H) (sz := sz) (k := .i64) (l := .mu j) (show i ≤ n by omega) (show cap ≠ i by omega), hmn, hne, hmn2, hne2, w1]
  refine condK_prop (fun hgt => ?_) fun hle => ?_
  · have hgt2 : cap < nm := by omega
    have hd0 : (0 : Int) < d := by omega
    have hfd : (i + d) * by' ≤ 140737488355328 := by rw [show i + d = n + m by omega]; exact hfit
    have hz1 : appzEv R H tE sz by' z (.slice (.mu j) 0 i (.known cap)) (.int .i64 (d : Int)) = some (.slice (.mu H.length) 0 nm (.opn 0), H ++ [.row (c.take (i * sz) ++ zerosEv z d) tE sz]) := by
      have e5 : (c ++ junk).take (i * sz) = c.take (i * sz) := List.take_append_of_le_length (by omega)
      have e6 : i * sz ≤ (c ++ junk).length := by rw [List.length_append]; omega
      simp only [appzEv, Int.toNat_natCast]
      rw [if_pos ⟨hd0, by omega, hfd, hsz, hby⟩]
      simp only [readN, hj, Option.bind_some, AO.content, Nat.zero_add, List.drop_zero]
      rw [if_pos e6, e5, show i + d = nm by omega]
    have hZl : (c.take (i * sz) ++ zerosEv z d).length = nm * sz := by
      have : ∀ d, (zerosEv z d).length = d * sz := fun d => by
        induction d with
        | zero => simp [zerosEv]
        | succ d ih => simp [zerosEv, ih, hz, Nat.succ_mul, Nat.add_comm]
      rw [List.length_append, this, List.length_take, hc, e4, hnm, e2]; omega
    have hZ0 : (c.take (i * sz) ++ zerosEv z d).take (i * sz) = c.take (i * sz) := List.take_left' (by rw [List.length_take]; omega)
    generalize c.take (i * sz) ++ zerosEv z d = Z0 at hz1 hZl hZ0
    simp [sl_hi (H := H) (sz := sz) (k := .i64) (l := .mu j) (n := n) (show i ≤ cap by omega), w1, w2, hz1]
    have hr : (H ++ [AO.row Z0 tE sz])[H.length]? = some (.row Z0 tE sz) := by simp
    have hv1 : (H ++ [AO.row Z0 tE sz])[jv]? = some (.cells V tV) := by rw [List.getElem?_append_left hvl]; exact hV
    have hj1 : (H ++ [AO.row Z0 tE sz])[j]? = some (.cells (c ++ junk) tE) := by rw [List.getElem?_append_left hjl]; exact hj
    generalize hH1 : H ++ [AO.row Z0 tE sz] = H1 at hr hv1 hj1
    have q1 : min m (nm - i) = m := by omega
    have q1' : min (m : Int) ((nm - i : Nat) : Int) = m := by omega
    have q2 : V.take (m * sz) = V := List.take_of_length_le (by omega)
    have q3 : i * sz + m * sz ≤ nm * sz := by rw [← e1]; exact Nat.mul_le_mul_right _ (by omega)
    have hVo' : ∀ x ∈ V, x.oneCell = true := List.all_eq_true.1 hVo
    simp [sl_opn (i := i) (k := .i64) hr hZl hsz (by omega), hv1, hr, hVl, q1, q1', q2, q3, hZl, hVo, writeN, AO.content, AO.withContent]
    refine AWp.tree (.one 0 (.one 1 (.one 2 (.one 5 (.one 6 (.one 3 (.two 4 7 (.one 7 (.one 8 .nil)) (.one 4 (.one 8 .nil))))))))) hm (by kernel_rfl) ?_
    have hlr : H.length < H1.length := (List.getElem?_eq_some_iff.1 hr).1
    have hr2 : (H1.set H.length (.row (splice Z0 (i * sz) V) tE sz))[H.length]? = some (.row (splice Z0 (i * sz) V) tE sz) := by simp [hlr]
    have hj2 : (H1.set H.length (.row (splice Z0 (i * sz) V) tE sz))[j]? = some (.cells (c ++ junk) tE) := by rw [List.getElem?_set, if_neg (by omega)]; exact hj1
    have hk2 : ∀ k, k < H.length → (H1.set H.length (.row (splice Z0 (i * sz) V) tE sz))[k]? = H[k]? := fun k hk => by rw [List.getElem?_set, if_neg (by omega), ← hH1, List.getElem?_append_left hk]
    have hl2 : (H1.set H.length (.row (splice Z0 (i * sz) V) tE sz)).length = H.length + 1 := by rw [List.length_set, ← hH1]; simp
    have hZ1l : (splice Z0 (i * sz) V).length = nm * sz := by rw [splice_length _ _ _ (by rw [hVl, hZl]; omega), hZl]
    generalize H1.set H.length (.row (splice Z0 (i * sz) V) tE sz) = H2 at hr2 hj2 hk2 hl2 ⊢
    have q4 : min (n - i) (nm - im) = n - i := by omega
    have q4' : min ((n - i : Nat) : Int) ((nm - im : Nat) : Int) = (n - i : Nat) := by omega
    have q5 : ((c ++ junk).drop (i * sz)).take ((n - i) * sz) = c.drop (i * sz) := by
      rw [List.drop_append_of_le_length (by omega), List.take_append_of_le_length (by rw [List.length_drop]; omega), List.take_of_length_le (by rw [List.length_drop]; omega)]
    have q6 : i * sz + (n - i) * sz ≤ c.length + junk.length := by omega
    have q7 : (c.drop (i * sz)).all AV.oneCell = true := List.all_eq_true.2 fun x hx => List.all_eq_true.1 hco x (List.mem_of_mem_drop hx)
    have e7 : im * sz = i * sz + m * sz := by rw [him, e1]
    have q8 : im * sz + (c.length - i * sz) ≤ nm * sz := by rw [e7, hnm, e2]; omega
    have hfin : splice (splice Z0 (i * sz) V) (im * sz) (c.drop (i * sz)) = c.take (i * sz) ++ (V ++ c.drop (i * sz)) := by
      have a1 : (splice Z0 (i * sz) V).take (im * sz) = c.take (i * sz) ++ V := by
        unfold splice
        rw [hZ0]
        exact List.take_left' (by rw [List.length_append, List.length_take, hVl, e7]; omega)
      have a2 : (splice Z0 (i * sz) V).drop (im * sz + (c.drop (i * sz)).length) = [] := List.drop_of_length_le (by rw [hZ1l, List.length_drop, e7, hnm, e2]; omega)
      unfold splice at a1 a2 ⊢
      rw [a1, a2, List.append_nil, List.append_assoc]
    generalize splice Z0 (i * sz) V = Z1 at hr2 hZ1l hfin ⊢
    simp [w3, sl_opn (i := im) (k := .i64) hr2 hZ1l hsz (by omega), sl_lo (H := H2) (sz := sz) (k := .i64) (l := .mu j) (show i ≤ n by omega) (show cap ≠ i by omega), hr2, hj2, q4, q4', q5, q6, q7, q8, writeN, AO.content, AO.withContent, hfin, hZ1l]
    have hout : MatOut H j tE sz (n + m) (c.take (i * sz) ++ (V ++ c.drop (i * sz))) cap (.slice (.mu H.length) 0 nm (.opn 0)) (H2.set H.length (.row (c.take (i * sz) ++ (V ++ c.drop (i * sz))) tE sz)) := by
      refine ⟨fun k hk hkj => by rw [List.getElem?_set, if_neg (by omega)]; exact hk2 k hk, by rw [← List.append_assoc]; exact hDl, .inr ⟨H.length, Nat.le_refl _, by rw [hnm], by simp [hl2]⟩⟩
    exact hout
  · have hle2 : nm ≤ cap := by omega
    have q4 : min (nm - i) (nm - im) = n - i := by omega
    have q4' : min ((nm - i : Nat) : Int) ((nm - im : Nat) : Int) = (n - i : Nat) := by omega
    have q5 : ((c ++ junk).drop (i * sz)).take ((n - i) * sz) = c.drop (i * sz) := by
      rw [List.drop_append_of_le_length (by omega), List.take_append_of_le_length (by rw [List.length_drop]; omega), List.take_of_length_le (by rw [List.length_drop]; omega)]
    have q6 : i * sz + (n - i) * sz ≤ c.length + junk.length := by omega
    have q7 : (c.drop (i * sz)).all AV.oneCell = true := List.all_eq_true.2 fun x hx => List.all_eq_true.1 hco x (List.mem_of_mem_drop hx)
    have e7 : im * sz = i * sz + m * sz := by rw [him, e1]
    have e8 : (n + m) * sz ≤ cap * sz := Nat.mul_le_mul_right _ (by omega)
    have hjl2 : c.length + junk.length = cap * sz := by rw [← List.length_append]; exact hlen
    have q8 : im * sz + (c.length - i * sz) ≤ c.length + junk.length := by rw [e7]; omega
    have hpos : 0 < m * sz := Nat.mul_pos hm0 (Nat.pos_of_ne_zero hsz)
    have hVne : ¬ V = [] := fun e => by rw [e] at hVl; simp at hVl; omega
    have hnpos : 0 < n * sz := Nat.mul_pos (by omega) (Nat.pos_of_ne_zero hsz)
    have hcne : ¬ c = [] := fun e => by rw [e] at hc; simp at hc; omega
    obtain ⟨v0, V', hVe⟩ := List.exists_cons_of_ne_nil hVne
    obtain ⟨c0, c', hce⟩ := List.exists_cons_of_ne_nil hcne
    have hV' : H[jv]? = some (.cells (v0 :: V') tV) := by rw [← hVe]; exact hV
    have hj' : H[j]? = some (.cells (c0 :: (c' ++ junk)) tE) := by rw [← List.cons_append, ← hce]; exact hj
    simp [w1, w3, sl_hi (H := H) (sz := sz) (k := .i64) (l := .mu j) (n := n) hle2, sl_lo (H := H) (sz := sz) (k := .i64) (l := .mu j) (n := nm) (i := im) (show im ≤ nm by omega) (show cap ≠ im by omega), hV', hj', hjv]
    refine AWp.tree (.one 0 (.one 1 (.one 2 (.one 5 (.one 6 (.one 3 (.two 4 7 (.one 7 (.one 8 .nil)) (.one 4 (.one 8 .nil))))))))) hm (by kernel_rfl) ?_
    simp [w3, sl_lo (H := H) (sz := sz) (k := .i64) (l := .mu j) (n := nm) (i := im) (show im ≤ nm by omega) (show cap ≠ im by omega), sl_lo (H := H) (sz := sz) (k := .i64) (l := .mu j) (n := nm) (i := i) (show i ≤ nm by omega) (show cap ≠ i by omega), hj, q4, q4', q5, q6, q7, q8, writeN, AO.content, AO.withContent]
    have hlD1 : (splice (c ++ junk) (im * sz) (c.drop (i * sz))).length = cap * sz := by
      rw [splice_length _ _ _ (by rw [List.length_append, List.length_drop]; exact q8), hlen]
    have hins : (splice (splice (c ++ junk) (im * sz) (c.drop (i * sz))) (i * sz) V).take ((n + m) * sz) = c.take (i * sz) ++ V ++ c.drop (i * sz) := by
      rw [e7, e2]; exact ins_list hc hVl hps (by omega)
    have hlD2 : (splice (splice (c ++ junk) (im * sz) (c.drop (i * sz))) (i * sz) V).length = cap * sz := by
      rw [splice_length _ _ _ (by rw [hVl, hlD1]; omega), hlD1]
    generalize splice (c ++ junk) (im * sz) (c.drop (i * sz)) = D1 at hlD1 hins hlD2
    have hj3 : (H.set j (.cells D1 tE))[j]? = some (.cells D1 tE) := by simp [hjl]
    have hv3 : (H.set j (.cells D1 tE))[jv]? = some (.cells V tV) := by rw [List.getElem?_set, if_neg (Ne.symm hjv)]; exact hV
    have hk3 : ∀ k, k ≠ j → (H.set j (.cells D1 tE))[k]? = H[k]? := fun k hk => by rw [List.getElem?_set, if_neg (Ne.symm hk)]
    have hl3 : (H.set j (.cells D1 tE)).length = H.length := by simp
    generalize H.set j (.cells D1 tE) = H3 at hj3 hv3 hk3 hl3
    have q9 : min m (nm - i) = m := by omega
    have q9' : min (m : Int) ((nm - i : Nat) : Int) = m := by omega
    have q10 : V.take (m * sz) = V := List.take_of_length_le (by omega)
    have q11 : i * sz + m * sz ≤ cap * sz := by omega
    have hout : MatOut H j tE sz (n + m) (c.take (i * sz) ++ (V ++ c.drop (i * sz))) cap (.slice (.mu j) 0 nm (.known cap)) (H3.set j (.cells (splice D1 (i * sz) V) tE)) := by
      refine ⟨fun k hk hkj => by rw [List.getElem?_set, if_neg (Ne.symm hkj)]; exact hk3 k hkj, by rw [← List.append_assoc]; exact hDl, .inl ⟨by rw [hnm], _, by simp [hl3, hjl], hlD2, fun e => by rw [e] at hlD2; simp at hlD2; omega, by rw [hins, List.append_assoc]⟩⟩
    simp [sl_lo (H := H3) (sz := sz) (k := .i64) (l := .mu j) (n := nm) (i := i) (show i ≤ nm by omega) (show cap ≠ i by omega), hv3, hj3, hVl, q9, q9', q10, q11, hVo, hlD1, writeN, AO.content, AO.withContent]
    exact hout
/-- slices.Insert of a growing slice of the call's own. -/
theorem ins_row {f : FuncId} {tE sz by' rot : Nat} {z : List AV} {ov or_ : Array TypeId} (hm : P.follows .mixedOrders = true) (hf : FnOk P f (insF tE sz by' z ov or_ rot)) {H : AH} {j jv n i m : Nat} {c V : List AV} {tV : TypeId} {cv : Cap} (hz : z.length = sz)
    (hj : H[j]? = some (.row c tE sz)) (hV : H[jv]? = some (.cells V tV)) (hc : c.length = n * sz) (hVl : V.length = m * sz) (hi : i < n) (hm0 : 0 < m) (hsz : sz ≠ 0) (hby : by' ≠ 0) (hfit : (n + m) * by' ≤ 140737488355328) (hzo : z.all AV.oneCell = true) (hco : c.all AV.oneCell = true) (hVo : V.all AV.oneCell = true) :
    ACalls P R f [.slice (.mu j) 0 n (.opn 0), .int .i64 i, .slice (.mu jv) 0 m cv] H fun v G => v = .slice (.mu H.length) 0 (n + m) (.opn 0) ∧ G = H.set j .dead ++ [.row (c.take (i * sz) ++ V ++ c.drop (i * sz)) tE sz] := by
  have hjv : jv ≠ j := fun e => by rw [e, hj] at hV; cases hV
  have hjl := (List.getElem?_eq_some_iff.1 hj).1
  refine ACalls.mat hj (fun x hx => ?_) fun cap junk hl => ?_
  · rw [List.mem_append, List.mem_append] at hx
    rcases hx with (hx | hx) | hx
    · exact ⟨j, c, by simp [hj, AO.content], List.mem_of_mem_take hx⟩
    · exact ⟨jv, V, by simp [hV, AO.content], hx⟩
    · exact ⟨j, c, by simp [hj, AO.content], List.mem_of_mem_drop hx⟩
  · refine (ins_mat (junk := junk) (cap := cap) hm hf hz (H := H.set j (.cells (c ++ junk) tE)) (by simp [hjl]) (by rw [List.getElem?_set, if_neg (Ne.symm hjv)]; exact hV) hjv hl hc hVl hi hm0 hsz hby hfit hzo hco hVo).mono ?_
    rintro v G ⟨h1, h2, h3⟩
    refine ⟨fun k hk hkj => ?_, h2, ?_⟩
    · rw [h1 k (by simpa using hk) hkj, List.getElem?_set, if_neg (Ne.symm hkj)]
    · simpa using h3
/-- slices.Insert into a slice without elements. -/
theorem ins_none {f : FuncId} {tE sz by' rot : Nat} {z : List AV} {ov or_ : Array TypeId} (hf : FnOk P f (insF tE sz by' z ov or_ rot)) {H : AH} {jv m : Nat} {s : AV} {V : List AV} {tV : TypeId} {cv : Cap}
    (hr : RowAt H s 0 sz tE []) (hV : H[jv]? = some (.cells V tV)) (hVl : V.length = m * sz) (hm0 : 0 < m) (hsz : sz ≠ 0) (hby : by' ≠ 0) (hfit : m * by' ≤ 140737488355328) (hVo : V.all AV.oneCell = true) :
    ACalls P R f [s, .int .i64 0, .slice (.mu jv) 0 m cv] H fun v G => v = .slice (.mu H.length) 0 m (.opn 0) ∧ G.length = H.length + 1 ∧ RowAt G v m sz tE V ∧ ∀ i, i < H.length → (∀ o l c, s ≠ .slice (.mu i) o l c) → G[i]? = H[i]? := by
  have hmn2 : ¬ m = 0 := by omega
  obtain ⟨G, h1, h2, h3, h4⟩ := append_row (R := R) (x := .slice (.mu jv) 0 m cv) hr (src_cells hV hVl) hm0 hsz hby (by simpa using hfit) hVo hVl
  rw [Nat.zero_add] at h1 h3
  have hs : sliceEv H sz s (some (.int .i64 0)) none none = some (s, H) := by
    rcases hr with ⟨rfl, _, _⟩ | ⟨j, rfl, hj, hl⟩
    · simp [sliceEv, boundEv]
    · have : (0 : Nat) / sz = 0 := Nat.zero_div _
      simp [sliceEv, boundEv, hj, hsz, this]
  have hl : (AOp.lenL (.t 18)).eval P R = fun e H => (match e 18 with
    | .nilslice => some (.int .i64 0, H)
    | .slice _ _ n _ => some (.int .i64 n, H)
    | .raw (.slice _ n _) => some (.int .i64 n, H)
    | _ => none) := rfl
  have hout : .slice (.mu H.length) 0 m (.opn 0) = AV.slice (.mu H.length) 0 m (.opn 0) ∧ G.length = H.length + 1 ∧ RowAt G (.slice (.mu H.length) 0 m (.opn 0)) m sz tE V ∧ ∀ i, i < H.length → (∀ o l c, s ≠ .slice (.mu i) o l c) → G[i]? = H[i]? := ⟨rfl, h2, by simpa using h3, h4⟩
  refine ACalls.of_wpE hf (by simp [insF]) ?_
  rcases hr with ⟨rfl, _, _⟩ | ⟨j, rfl, hj, hl⟩
  · simp [insF, hs, hmn2, h1]
    simpa using hout
  · simp [insF, hs, hmn2, h1]
    simpa using hout
set_option maxHeartbeats 4000000 in
theorem del_mat {f : FuncId} {tE sz by' : Nat} {z : List AV} (hm : P.follows .mixedOrders = true) (hf : FnOk P f (delF tE sz by' z)) {H : AH} {j n i cap : Nat} {c junk : List AV} (hz : z.length = sz)
    (hj : H[j]? = some (.cells (c ++ junk) tE)) (hlen : (c ++ junk).length = cap * sz) (hc : c.length = n * sz) (hi : i < n) (hsz : sz ≠ 0) (hby : by' ≠ 0) (hfit : n * by' ≤ 140737488355328) (hzo : z.all AV.oneCell = true) (hco : c.all AV.oneCell = true) :
    ACalls P R f [.slice (.mu j) 0 n (.known cap), .int .i64 i, .int .i64 ((i : Int) + 1)] H (MatOut H j tE sz (n - 1) (c.take (i * sz) ++ c.drop ((i + 1) * sz)) cap) := by
  have hjl := (List.getElem?_eq_some_iff.1 hj).1
  obtain ⟨i1, hi1⟩ : ∃ x, x = i + 1 := ⟨_, rfl⟩
  have hi1' : (i : Int) + 1 = (i1 : Int) := by omega
  have hncap : n ≤ cap := by
    rw [List.length_append, hc] at hlen
    exact Nat.le_of_mul_le_mul_right (by omega) (Nat.pos_of_ne_zero hsz)
  have hne : ¬ i = i1 := by omega
  have hne' : ¬ (i : Int) = i1 := by omega
  rw [hi1', ← hi1]
  refine ACalls.of_wpE hf (by simp [delF]) ?_
  simp [delF, sl_all (H := H) (sz := sz) (k := .i64) (k' := .i64) (k2 := .i64) (l := .mu j) (show i ≤ i1 by omega) (show i1 ≤ n by omega) hncap, hne, hne']
  have e1 : i1 * sz = i * sz + sz := by rw [hi1, Nat.succ_mul]
  have e2 : (n - 1) * sz = n * sz - sz := by rw [Nat.sub_mul, Nat.one_mul]
  have e3 : (n - i1) * sz = n * sz - i1 * sz := Nat.sub_mul ..
  have e4 : i1 * sz ≤ n * sz := Nat.mul_le_mul_right _ (by omega)
  have e5 : n * sz ≤ cap * sz := Nat.mul_le_mul_right _ hncap
  have hl2 : c.length + junk.length = cap * sz := by rw [← List.length_append]; exact hlen
  have q7 : (c.drop (i1 * sz)).all AV.oneCell = true := List.all_eq_true.2 fun x hx => List.all_eq_true.1 hco x (List.mem_of_mem_drop hx)
  obtain ⟨n1, hn1⟩ : ∃ x, x = n - 1 := ⟨_, rfl⟩
  obtain ⟨off, hoff⟩ : ∃ x, x = if cap = i1 then 0 else i1 * sz := ⟨_, rfl⟩
  have s1 : sliceEv H sz (.slice (.mu j) 0 n (.known cap)) (some (.int .i64 (i1 : Int))) none none = some (.slice (.mu j) off (n - i1) (.known (cap - i1)), H) := by
    have h2 : (i1 : Int) ≤ n := by omega
    simp [sliceEv, boundEv, h2, hoff]
  have happ : appendEv R H tE sz by' (.slice (.mu j) 0 i (.known cap)) (.slice (.mu j) off (n - i1) (.known (cap - i1))) = some (.slice (.mu j) 0 n1 (.known cap), H.set j (.cells (splice (c ++ junk) (i * sz) (c.drop (i1 * sz))) tE)) := by
    have hfit' : (i + (n - i1)) * by' ≤ 140737488355328 := Nat.le_trans (Nat.mul_le_mul_right _ (by omega)) hfit
    have hneed : i + (n - i1) ≤ cap := by omega
    have hoffl : off + (n - i1) * sz ≤ c.length + junk.length := by
      rw [hoff]; split
      · rw [e3]; omega
      · rw [e3]; omega
    by_cases hl : i1 = n
    · have e6 : n - i1 = 0 := by omega
      have e7 : c.drop (i1 * sz) = [] := List.drop_of_length_le (by rw [hl]; omega)
      have e8 : H.set j (.cells (c ++ junk) tE) = H := by
        rw [List.getElem?_eq_some_iff] at hj
        obtain ⟨h1, h2⟩ := hj
        rw [← h2]; exact List.set_getElem_self h1
      rw [e6] at hoffl hneed hfit' ⊢
      rw [e7, splice_nil, e8]
      simp only [appendEv, srcEv, readN, hj, Option.bind_some, AO.content, Nat.zero_mul, Nat.add_zero, List.length_append]
      rw [if_pos (by omega)]
      simp only [Option.map_some, List.take_zero, List.all_nil, and_true]
      rw [if_pos ⟨by simpa using hfit', hsz, hby⟩, if_pos (by omega), if_pos trivial]
      simp; omega
    · have hoff2 : off = i1 * sz := by rw [hoff, if_neg (by omega)]
      have q5 : ((c ++ junk).drop (i1 * sz)).take ((n - i1) * sz) = c.drop (i1 * sz) := by
        rw [List.drop_append_of_le_length (by omega), List.take_append_of_le_length (by rw [List.length_drop]; omega), List.take_of_length_le (by rw [List.length_drop]; omega)]
      simp only [appendEv, srcEv, readN, hj, Option.bind_some, AO.content, List.length_append]
      rw [if_pos hoffl, hoff2, q5]
      simp only [Option.map_some]
      rw [if_pos ⟨hfit', hsz, hby, q7⟩, if_pos hneed, if_neg (by omega)]
      have hw : i * sz + (c.drop (i1 * sz)).length ≤ (c ++ junk).length := by rw [List.length_drop, List.length_append]; omega
      simp only [writeN, hj, AO.content, AO.withContent, Nat.zero_add]
      rw [if_pos ⟨hw, q7⟩, show i + (n - i1) = n1 by omega]
      rfl
  have hD1 : (splice (c ++ junk) (i * sz) (c.drop (i1 * sz))).length = cap * sz := by
    rw [splice_length _ _ _ (by rw [List.length_drop, List.length_append]; omega), hlen]
  have hfin : (splice (splice (c ++ junk) (i * sz) (c.drop (i1 * sz))) (n1 * sz) z).take (n1 * sz) = c.take (i * sz) ++ c.drop (i1 * sz) := by
    have := del_list (c := c) (junk := junk) (z := z) (p := i * sz) (q := sz) hc (by omega)
    rw [e1, hn1, e2]
    exact this
  have hn1s : n1 * sz + sz ≤ cap * sz := by rw [hn1, e2]; omega
  have hD2 : (splice (splice (c ++ junk) (i * sz) (c.drop (i1 * sz))) (n1 * sz) z).length = cap * sz := by
    rw [splice_length _ _ _ (by rw [hz, hD1]; exact hn1s), hD1]
  generalize splice (c ++ junk) (i * sz) (c.drop (i1 * sz)) = D1 at happ hD1 hfin hD2
  refine AWp.tree (.one 0 (.one 1 (.one 3 (.one 4 (.two 2 5 (.one 5 (.one 6 (.one 7 .nil))) (.one 2 (.one 6 (.one 7 .nil)))))))) hm (by kernel_rfl) ?_
  have hj3 : (H.set j (.cells D1 tE))[j]? = some (.cells D1 tE) := by simp [hjl]
  have hk3 : ∀ k, k ≠ j → (H.set j (.cells D1 tE))[k]? = H[k]? := fun k hk => by rw [List.getElem?_set, if_neg (Ne.symm hk)]
  have hl3 : (H.set j (.cells D1 tE)).length = H.length := by simp
  generalize H.set j (.cells D1 tE) = H3 at happ hj3 hk3 hl3
  have s2 : sliceEv H3 sz (.slice (.mu j) 0 n1 (.known cap)) (some (.int .i64 (n1 : Int))) (some (.int .i64 (n : Int))) none = some (.slice (.mu j) (n1 * sz) 1 (.known (cap - n1)), H3) := by
    have h2 : (n : Int) ≤ cap := by omega
    have h3 : (n1 : Int) ≤ n := by omega
    have h4 : ¬ cap = n1 := by omega
    simp [sliceEv, boundEv, h2, h3, h4]
    omega
  have hzo' : (zerosEv z 1) = z := by simp [zerosEv]
  have hout : MatOut H j tE sz (n - 1) (c.take (i * sz) ++ c.drop (i1 * sz)) cap (.slice (.mu j) 0 n1 (.known cap)) (H3.set j (.cells (splice D1 (n1 * sz) z) tE)) := by
    refine ⟨fun k hk hkj => by rw [List.getElem?_set, if_neg (Ne.symm hkj)]; exact hk3 k hkj, ?_, .inl ⟨by rw [hn1], _, by simp [hl3, hjl], hD2, fun e => by rw [e] at hD2; simp at hD2; omega, by rw [← hn1, hfin]⟩⟩
    rw [List.length_append, List.length_take, List.length_drop, e2]; omega
  simp [sl_hi (H := H) (sz := sz) (k := .i64) (l := .mu j) (n := n) (show i ≤ cap by omega), s1, happ, s2, hzo', hz, hzo, hj3, hD1, hn1s, writeN, AO.content, AO.withContent]
  exact hout
/-- slices.Delete of one element of a growing slice of the call's own. -/
theorem del_row {f : FuncId} {tE sz by' : Nat} {z : List AV} (hm : P.follows .mixedOrders = true) (hf : FnOk P f (delF tE sz by' z)) {H : AH} {j n i : Nat} {c : List AV} (hz : z.length = sz)
    (hj : H[j]? = some (.row c tE sz)) (hc : c.length = n * sz) (hi : i < n) (hsz : sz ≠ 0) (hby : by' ≠ 0) (hfit : n * by' ≤ 140737488355328) (hzo : z.all AV.oneCell = true) (hco : c.all AV.oneCell = true) :
    ACalls P R f [.slice (.mu j) 0 n (.opn 0), .int .i64 i, .int .i64 ((i : Int) + 1)] H fun v G => v = .slice (.mu H.length) 0 (n - 1) (.opn 0) ∧ G = H.set j .dead ++ [.row (c.take (i * sz) ++ c.drop ((i + 1) * sz)) tE sz] := by
  have hjl := (List.getElem?_eq_some_iff.1 hj).1
  refine ACalls.mat hj (fun x hx => ?_) fun cap junk hl => ?_
  · rw [List.mem_append] at hx
    rcases hx with hx | hx
    · exact ⟨j, c, by simp [hj, AO.content], List.mem_of_mem_take hx⟩
    · exact ⟨j, c, by simp [hj, AO.content], List.mem_of_mem_drop hx⟩
  · refine (del_mat (junk := junk) (cap := cap) hm hf hz (H := H.set j (.cells (c ++ junk) tE)) (by simp [hjl]) hl hc hi hsz hby hfit hzo hco).mono ?_
    rintro v G ⟨h1, h2, h3⟩
    refine ⟨fun k hk hkj => ?_, h2, ?_⟩
    · rw [h1 k (by simpa using hk) hkj, List.getElem?_set, if_neg (Ne.symm hkj)]
    · simpa using h3
end
end Am
