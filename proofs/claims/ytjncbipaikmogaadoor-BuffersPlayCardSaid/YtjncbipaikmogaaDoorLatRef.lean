/- The document's lattice: below, joins, meets of a table, looked through. -/
import Derived.Test.YtjncbipaikmogaaDoorLatLook
import Derived.Test.YtjncbipaikmogaaDoorLatPure
namespace Go.Proofs.YtjncbipaikmogaaDoor.Latt
open Go Go.RowKit Am
set_option maxRecDepth 100000
set_option linter.unusedSimpArgs false
set_option linter.unusedVariables false
attribute [-simp] Am.binEv Am.intBin Am.read1
attribute [local simp] binEv_lss binEv_leq binEv_gtr binEv_geq binEv_eql binEv_neq binEv_add binEv_sub binEv_mul binEv_shr58 read1_ro read1_mu
variable {R : Ro}
def SqT (T : List (List Bool)) : Prop := ∀ r ∈ T, r.length = T.length
/-- Below, of any two numbers. -/
def tbI (T : List (List Bool)) (a b : Int) : Bool := isL T.length a && (isL T.length b && tb T a.toNat b.toNat)
theorem tbI_nat {T : List (List Bool)} {x y : Nat} (hx : x < T.length) (hy : y < T.length) : tbI T x y = tb T x y := by
  have h1 : isL T.length (x : Int) = true := by simp [isL]; omega
  have h2 : isL T.length (y : Int) = true := by simp [isL]; omega
  simp [tbI, h1, h2]
theorem tbI_lt {T : List (List Bool)} {a b : Int} (h : tbI T a b = true) : isL T.length a = true ∧ isL T.length b = true ∧ tb T a.toNat b.toNat = true := by simpa [tbI, and_assoc] using h
theorem rbelow_ok {H : AH} {tv : AV} {T : List (List Bool)} (ht : TabIn R H tv T) (hsq : SqT T) (a b : Int) : ACalls Tryd.prog R 46 [tv, .int .i64 a, .int .i64 b] H fun v H' => v = .bool (tbI T a b) ∧ H' = H := by
  obtain ⟨rows, hrows, hrl, hr⟩ := ht
  refine ACalls.of_wpE Fns.ok46 (by simp [Fns.a46]) ?_
  unfold tbI isL
  by_cases h1 : 0 ≤ a
  · by_cases h2 : 0 ≤ b
    · rcases hrows with ⟨rfl, hn⟩ | ⟨l, off, cap, rfl, hread⟩
      · have hT : T = [] := List.length_eq_zero_iff.1 (by rw [← hrl, hn]; rfl)
        subst hT
        have h3 : ¬ a < 0 := by omega
        simp [Fns.a46, h1, h2, h3]
      · rw [hrl]
        by_cases h3 : a < T.length
        · by_cases h4 : b < T.length
          · obtain ⟨x, rfl⟩ : ∃ n : Nat, a = n := ⟨a.toNat, by omega⟩
            obtain ⟨y, rfl⟩ : ∃ n : Nat, b = n := ⟨b.toNat, by omega⟩
            have hx : x < T.length := by omega
            have hy : y < T.length := by omega
            have hxr := hsq _ (List.getElem_mem hx)
            obtain ⟨rv, hrv, hsee⟩ := hr x _ (List.getElem?_eq_getElem hx)
            have hrd := hread x rv hrv
            rcases hsee with (⟨_, hnil⟩ | ⟨l2, off2, cap2, rfl, hread2⟩) | ⟨hnil, _⟩
            rotate_left 2
            · simp at hnil; rw [hnil] at hxr; simp at hxr; omega
            · simp at hnil; rw [hnil] at hxr; simp at hxr; omega
            have hrd2 := hread2 y (.bool (tb T x y)) (by rw [List.getElem?_map, List.getElem?_eq_getElem (by omega)]; simp [tb, List.getElem?_eq_getElem hx, List.getElem?_eq_getElem (show y < T[x].length by omega)])
            simp only [List.length_map, hxr] at hrd
            simp [Fns.a46, h3, h4, hx, hy, hrd, hrd2]
          · simp [Fns.a46, h1, h2, h3, h4]
        · simp [Fns.a46, h1, h2, h3]
    · simp [Fns.a46, h1, h2]
  · simp [Fns.a46, h1]
/-- The lowest above two numbers, the highest below. -/
def LubI (T : List (List Bool)) (a b : Int) (x : Nat) : Prop := x < T.length ∧ tbI T a x = true ∧ tbI T b x = true ∧ ∀ y : Nat, y < T.length → tbI T a y = true → tbI T b y = true → tb T x y = true
def GlbI (T : List (List Bool)) (a b : Int) (x : Nat) : Prop := x < T.length ∧ tbI T x a = true ∧ tbI T x b = true ∧ ∀ y : Nat, y < T.length → tbI T y a = true → tbI T y b = true → tb T y x = true
theorem TabIn.lenEv {H : AH} {tv : AV} {T : List (List Bool)} (ht : TabIn R H tv T) : (tv = .nilslice ∧ T.length = 0) ∨ ∃ l off cap, tv = .slice l off T.length cap := by
  obtain ⟨rows, hrows, hrl, hr⟩ := ht
  rcases hrows.lenL with ⟨rfl, hn⟩ | ⟨l, off, cap, rfl⟩
  · exact .inl ⟨rfl, by rw [← hrl, hn]; rfl⟩
  · exact .inr ⟨l, off, cap, by rw [hrl]⟩
/-- Whether a label is, as far as 'y' shows. -/
def okJ (T : List (List Bool)) (a b : Int) (x y : Nat) : Bool := tbI T a x && tbI T b x && (List.range y).all fun z => !tbI T a z || !tbI T b z || tbI T x z
def okM (T : List (List Bool)) (a b : Int) (x y : Nat) : Bool := tbI T x a && tbI T x b && (List.range y).all fun z => !tbI T z a || !tbI T z b || tbI T z x
theorem okJ_succ {T : List (List Bool)} {a b : Int} {x y : Nat} (h : okJ T a b x y = true) : okJ T a b x (y + 1) = (!tbI T a y || !tbI T b y || tbI T x y) := by
  unfold okJ at h ⊢
  rw [List.range_succ, List.all_append]
  simp only [Bool.and_eq_true] at h
  rw [h.1.1, h.1.2, h.2]
  simp
theorem okM_succ {T : List (List Bool)} {a b : Int} {x y : Nat} (h : okM T a b x y = true) : okM T a b x (y + 1) = (!tbI T y a || !tbI T y b || tbI T y x) := by
  unfold okM at h ⊢
  rw [List.range_succ, List.all_append]
  simp only [Bool.and_eq_true] at h
  rw [h.1.1, h.1.2, h.2]
  simp
theorem okJ_lub {T : List (List Bool)} {a b : Int} {x : Nat} (hx : x < T.length) (h : okJ T a b x T.length = true) : LubI T a b x := by
  unfold okJ at h
  simp at h
  refine ⟨hx, h.1.1, h.1.2, fun y hy h1 h2 => ?_⟩
  have := h.2 y hy
  rw [h1, h2] at this
  simp at this
  rwa [tbI_nat hx hy] at this
theorem okM_glb {T : List (List Bool)} {a b : Int} {x : Nat} (hx : x < T.length) (h : okM T a b x T.length = true) : GlbI T a b x := by
  unfold okM at h
  simp at h
  refine ⟨hx, h.1.1, h.1.2, fun y hy h1 h2 => ?_⟩
  have := h.2 y hy
  rw [h1, h2] at this
  simp at this
  rwa [tbI_nat hy hx] at this
theorem okJ_not {T : List (List Bool)} {a b : Int} {x y : Nat} (hy : y ≤ T.length) (h : okJ T a b x y = false) : ¬ LubI T a b x := by
  rintro ⟨hx, h1, h2, h3⟩
  unfold okJ at h
  rw [h1, h2] at h
  simp at h
  obtain ⟨z, hz, ⟨h4, h5⟩, h6⟩ := h
  have := h3 z (by omega) h4 h5
  rw [tbI_nat hx (by omega), this] at h6
  cases h6
theorem okM_not {T : List (List Bool)} {a b : Int} {x y : Nat} (hy : y ≤ T.length) (h : okM T a b x y = false) : ¬ GlbI T a b x := by
  rintro ⟨hx, h1, h2, h3⟩
  unfold okM at h
  rw [h1, h2] at h
  simp at h
  obtain ⟨z, hz, ⟨h4, h5⟩, h6⟩ := h
  have := h3 z (by omega) h4 h5
  rw [tbI_nat (by omega) hx, this] at h6
  cases h6
set_option maxHeartbeats 4000000 in
theorem rjoin_ok {H : AH} {tv : AV} {T : List (List Bool)} (ht : TabIn R H tv T) (hsq : SqT T) (hn : T.length ≤ 1000) (a b : Int) :
    ACalls Tryd.prog R 23 [tv, .int .i64 a, .int .i64 b] H fun v H' => H' = H ∧ ((v = .int .i64 (-1) ∧ ∀ x, ¬ LubI T a b x) ∨ ∃ x : Nat, v = .int .i64 x ∧ LubI T a b x) := by
  have hb := fun a b => rbelow_ok ht hsq a b
  refine ACalls.of_wpE Fns.ok23 (by simp [Fns.a23]) ?_
  rcases ht.lenEv with ⟨rfl, h0⟩ | ⟨l, off, cap, rfl⟩
  · simp [Fns.a23]
    refine AWp.loop_once (wpE_sound _ ?_)
    simp
    intro x h
    have := h.1
    omega
  simp [Fns.a23]
  refine AWp.loop (fun e H' => H' = H ∧ e 0 = .slice l off T.length cap ∧ e 1 = .int .i64 a ∧ e 2 = .int .i64 b ∧ ∃ x : Nat, e 7 = .int .i64 x ∧ x ≤ T.length ∧ ∀ z, z < x → ¬ LubI T a b z)
    (fun e _ => match e 7 with | .int _ i => ((T.length : Int) - i).toNat | _ => 0) ⟨rfl, by simp, by simp, by simp, 0, by simp, by omega, fun z h => absurd h (by omega)⟩ ?_
  rintro e H' ⟨rfl, h0, h1, h2, x, h7, hx, hno⟩
  refine wpE_sound _ ?_
  by_cases hxl : x < T.length
  · have hxl' : (x : Int) < (T.length : Int) := by omega
    have hw1 : IntKind.i64.wrap ((x : Int) + 1) = (x : Int) + 1 := i64_small _ (by omega) (by omega)
    simp [h0, h1, h2, h7, hxl, hxl']
    refine (hb a x).mono ?_
    rintro v H2 ⟨rfl, rfl⟩
    cases hb1 : tbI T a x with
    | false =>
      simp [h0, h1, h2, h7]
      have hk0 : okJ T a b x 0 = false := by simp [okJ, hb1]
      refine AWp.loop (fun e H' => H' = H2 ∧ e 0 = .slice l off T.length cap ∧ e 1 = .int .i64 a ∧ e 2 = .int .i64 b ∧ e 7 = .int .i64 x ∧ ∃ y : Nat, e 9 = .int .i64 y ∧ y ≤ T.length ∧ e 8 = .bool (okJ T a b x y))
        (fun e _ => match e 9 with | .int _ i => ((T.length : Int) - i).toNat | _ => 0) ⟨rfl, by simp [h0], by simp [h1], by simp [h2], by simp [h7], 0, by simp, by omega, by simp [hk0]⟩ ?_
      rintro e H2 ⟨rfl, h0, h1, h2, h7, y, h9, hy, h8⟩
      refine wpE_sound _ ?_
      have hno2 : okJ T a b x y = false → ∀ z, z < x + 1 → ¬ LubI T a b z := fun hok z hz => by
        by_cases hzx : z = x
        · subst hzx; exact okJ_not hy hok
        · exact hno z (by omega)
      by_cases hyl : y < T.length
      · have hyl' : (y : Int) < (T.length : Int) := by omega
        have hw2 : IntKind.i64.wrap ((y : Int) + 1) = (y : Int) + 1 := i64_small _ (by omega) (by omega)
        cases hok : okJ T a b x y with
        | false =>
          simp [h0, h1, h2, h7, h8, h9, hyl, hyl', hok, hw1]
          exact ⟨⟨x + 1, by simp, by omega, hno2 hok⟩, by omega⟩
        | true =>
          have hs := okJ_succ hok
          simp [h0, h1, h2, h7, h8, h9, hyl, hyl', hok]
          refine (hb a y).mono ?_
          rintro v H2 ⟨rfl, rfl⟩
          cases hc1 : tbI T a y with
          | false =>
            rw [hc1] at hs
            simp [h0, h1, h2, h7, h8, h9, hw2]
            exact ⟨⟨y + 1, by simp, by omega, by rw [hs]; simp⟩, by omega⟩
          | true =>
            simp [h0, h1, h2, h7, h8, h9]
            refine (hb b y).mono ?_
            rintro v H2 ⟨rfl, rfl⟩
            cases hc2 : tbI T b y with
            | false =>
              rw [hc1, hc2] at hs
              simp [h0, h1, h2, h7, h8, h9, hw2]
              exact ⟨⟨y + 1, by simp, by omega, by rw [hs]; simp⟩, by omega⟩
            | true =>
              simp [h0, h1, h2, h7, h8, h9]
              refine (hb x y).mono ?_
              rintro v H2 ⟨rfl, rfl⟩
              rw [hc1, hc2] at hs
              simp [h0, h1, h2, h7, h8, h9, hw2]
              exact ⟨⟨y + 1, by simp, by omega, by rw [hs]; simp⟩, by omega⟩
      · obtain rfl : y = T.length := by omega
        cases hok : okJ T a b x T.length with
        | false =>
          simp [h0, h1, h2, h7, h8, h9, hok, hw1]
          exact ⟨⟨x + 1, by simp, by omega, hno2 hok⟩, by omega⟩
        | true =>
          simp [h0, h1, h2, h7, h8, h9, hok]
          exact ⟨x, rfl, okJ_lub hxl hok⟩
    | true =>
      simp [h0, h1, h2, h7]
      refine (hb b x).mono ?_
      rintro v H2 ⟨rfl, rfl⟩
      simp
      have hk0 : okJ T a b x 0 = tbI T b x := by simp [okJ, hb1]
      refine AWp.loop (fun e H' => H' = H2 ∧ e 0 = .slice l off T.length cap ∧ e 1 = .int .i64 a ∧ e 2 = .int .i64 b ∧ e 7 = .int .i64 x ∧ ∃ y : Nat, e 9 = .int .i64 y ∧ y ≤ T.length ∧ e 8 = .bool (okJ T a b x y))
        (fun e _ => match e 9 with | .int _ i => ((T.length : Int) - i).toNat | _ => 0) ⟨rfl, by simp [h0], by simp [h1], by simp [h2], by simp [h7], 0, by simp, by omega, by simp [hk0]⟩ ?_
      rintro e H2 ⟨rfl, h0, h1, h2, h7, y, h9, hy, h8⟩
      refine wpE_sound _ ?_
      have hno2 : okJ T a b x y = false → ∀ z, z < x + 1 → ¬ LubI T a b z := fun hok z hz => by
        by_cases hzx : z = x
        · subst hzx; exact okJ_not hy hok
        · exact hno z (by omega)
      by_cases hyl : y < T.length
      · have hyl' : (y : Int) < (T.length : Int) := by omega
        have hw2 : IntKind.i64.wrap ((y : Int) + 1) = (y : Int) + 1 := i64_small _ (by omega) (by omega)
        cases hok : okJ T a b x y with
        | false =>
          simp [h0, h1, h2, h7, h8, h9, hyl, hyl', hok, hw1]
          exact ⟨⟨x + 1, by simp, by omega, hno2 hok⟩, by omega⟩
        | true =>
          have hs := okJ_succ hok
          simp [h0, h1, h2, h7, h8, h9, hyl, hyl', hok]
          refine (hb a y).mono ?_
          rintro v H2 ⟨rfl, rfl⟩
          cases hc1 : tbI T a y with
          | false =>
            rw [hc1] at hs
            simp [h0, h1, h2, h7, h8, h9, hw2]
            exact ⟨⟨y + 1, by simp, by omega, by rw [hs]; simp⟩, by omega⟩
          | true =>
            simp [h0, h1, h2, h7, h8, h9]
            refine (hb b y).mono ?_
            rintro v H2 ⟨rfl, rfl⟩
            cases hc2 : tbI T b y with
            | false =>
              rw [hc1, hc2] at hs
              simp [h0, h1, h2, h7, h8, h9, hw2]
              exact ⟨⟨y + 1, by simp, by omega, by rw [hs]; simp⟩, by omega⟩
            | true =>
              simp [h0, h1, h2, h7, h8, h9]
              refine (hb x y).mono ?_
              rintro v H2 ⟨rfl, rfl⟩
              rw [hc1, hc2] at hs
              simp [h0, h1, h2, h7, h8, h9, hw2]
              exact ⟨⟨y + 1, by simp, by omega, by rw [hs]; simp⟩, by omega⟩
      · obtain rfl : y = T.length := by omega
        cases hok : okJ T a b x T.length with
        | false =>
          simp [h0, h1, h2, h7, h8, h9, hok, hw1]
          exact ⟨⟨x + 1, by simp, by omega, hno2 hok⟩, by omega⟩
        | true =>
          simp [h0, h1, h2, h7, h8, h9, hok]
          exact ⟨x, rfl, okJ_lub hxl hok⟩
  · obtain rfl : x = T.length := by omega
    simp [h0, h1, h2, h7]
    intro z hz
    exact hno z hz.1 hz
set_option maxHeartbeats 4000000 in
theorem rmeet_ok {H : AH} {tv : AV} {T : List (List Bool)} (ht : TabIn R H tv T) (hsq : SqT T) (hn : T.length ≤ 1000) (a b : Int) :
    ACalls Tryd.prog R 24 [tv, .int .i64 a, .int .i64 b] H fun v H' => H' = H ∧ ((v = .int .i64 (-1) ∧ ∀ x, ¬ GlbI T a b x) ∨ ∃ x : Nat, v = .int .i64 x ∧ GlbI T a b x) := by
  have hb := fun a b => rbelow_ok ht hsq a b
  refine ACalls.of_wpE Fns.ok24 (by simp [Fns.a24]) ?_
  rcases ht.lenEv with ⟨rfl, h0⟩ | ⟨l, off, cap, rfl⟩
  · simp [Fns.a24]
    refine AWp.loop_once (wpE_sound _ ?_)
    simp
    intro x h
    have := h.1
    omega
  simp [Fns.a24]
  refine AWp.loop (fun e H' => H' = H ∧ e 0 = .slice l off T.length cap ∧ e 1 = .int .i64 a ∧ e 2 = .int .i64 b ∧ ∃ x : Nat, e 7 = .int .i64 x ∧ x ≤ T.length ∧ ∀ z, z < x → ¬ GlbI T a b z)
    (fun e _ => match e 7 with | .int _ i => ((T.length : Int) - i).toNat | _ => 0) ⟨rfl, by simp, by simp, by simp, 0, by simp, by omega, fun z h => absurd h (by omega)⟩ ?_
  rintro e H' ⟨rfl, h0, h1, h2, x, h7, hx, hno⟩
  refine wpE_sound _ ?_
  by_cases hxl : x < T.length
  · have hxl' : (x : Int) < (T.length : Int) := by omega
    have hw1 : IntKind.i64.wrap ((x : Int) + 1) = (x : Int) + 1 := i64_small _ (by omega) (by omega)
    simp [h0, h1, h2, h7, hxl, hxl']
    refine (hb x a).mono ?_
    rintro v H2 ⟨rfl, rfl⟩
    cases hb1 : tbI T x a with
    | false =>
      simp [h0, h1, h2, h7]
      have hk0 : okM T a b x 0 = false := by simp [okM, hb1]
      refine AWp.loop (fun e H' => H' = H2 ∧ e 0 = .slice l off T.length cap ∧ e 1 = .int .i64 a ∧ e 2 = .int .i64 b ∧ e 7 = .int .i64 x ∧ ∃ y : Nat, e 9 = .int .i64 y ∧ y ≤ T.length ∧ e 8 = .bool (okM T a b x y))
        (fun e _ => match e 9 with | .int _ i => ((T.length : Int) - i).toNat | _ => 0) ⟨rfl, by simp [h0], by simp [h1], by simp [h2], by simp [h7], 0, by simp, by omega, by simp [hk0]⟩ ?_
      rintro e H2 ⟨rfl, h0, h1, h2, h7, y, h9, hy, h8⟩
      refine wpE_sound _ ?_
      have hno2 : okM T a b x y = false → ∀ z, z < x + 1 → ¬ GlbI T a b z := fun hok z hz => by
        by_cases hzx : z = x
        · subst hzx; exact okM_not hy hok
        · exact hno z (by omega)
      by_cases hyl : y < T.length
      · have hyl' : (y : Int) < (T.length : Int) := by omega
        have hw2 : IntKind.i64.wrap ((y : Int) + 1) = (y : Int) + 1 := i64_small _ (by omega) (by omega)
        cases hok : okM T a b x y with
        | false =>
          simp [h0, h1, h2, h7, h8, h9, hyl, hyl', hok, hw1]
          exact ⟨⟨x + 1, by simp, by omega, hno2 hok⟩, by omega⟩
        | true =>
          have hs := okM_succ hok
          simp [h0, h1, h2, h7, h8, h9, hyl, hyl', hok]
          refine (hb y a).mono ?_
          rintro v H2 ⟨rfl, rfl⟩
          cases hc1 : tbI T y a with
          | false =>
            rw [hc1] at hs
            simp [h0, h1, h2, h7, h8, h9, hw2]
            exact ⟨⟨y + 1, by simp, by omega, by rw [hs]; simp⟩, by omega⟩
          | true =>
            simp [h0, h1, h2, h7, h8, h9]
            refine (hb y b).mono ?_
            rintro v H2 ⟨rfl, rfl⟩
            cases hc2 : tbI T y b with
            | false =>
              rw [hc1, hc2] at hs
              simp [h0, h1, h2, h7, h8, h9, hw2]
              exact ⟨⟨y + 1, by simp, by omega, by rw [hs]; simp⟩, by omega⟩
            | true =>
              simp [h0, h1, h2, h7, h8, h9]
              refine (hb y x).mono ?_
              rintro v H2 ⟨rfl, rfl⟩
              rw [hc1, hc2] at hs
              simp [h0, h1, h2, h7, h8, h9, hw2]
              exact ⟨⟨y + 1, by simp, by omega, by rw [hs]; simp⟩, by omega⟩
      · obtain rfl : y = T.length := by omega
        cases hok : okM T a b x T.length with
        | false =>
          simp [h0, h1, h2, h7, h8, h9, hok, hw1]
          exact ⟨⟨x + 1, by simp, by omega, hno2 hok⟩, by omega⟩
        | true =>
          simp [h0, h1, h2, h7, h8, h9, hok]
          exact ⟨x, rfl, okM_glb hxl hok⟩
    | true =>
      simp [h0, h1, h2, h7]
      refine (hb x b).mono ?_
      rintro v H2 ⟨rfl, rfl⟩
      simp
      have hk0 : okM T a b x 0 = tbI T x b := by simp [okM, hb1]
      refine AWp.loop (fun e H' => H' = H2 ∧ e 0 = .slice l off T.length cap ∧ e 1 = .int .i64 a ∧ e 2 = .int .i64 b ∧ e 7 = .int .i64 x ∧ ∃ y : Nat, e 9 = .int .i64 y ∧ y ≤ T.length ∧ e 8 = .bool (okM T a b x y))
        (fun e _ => match e 9 with | .int _ i => ((T.length : Int) - i).toNat | _ => 0) ⟨rfl, by simp [h0], by simp [h1], by simp [h2], by simp [h7], 0, by simp, by omega, by simp [hk0]⟩ ?_
      rintro e H2 ⟨rfl, h0, h1, h2, h7, y, h9, hy, h8⟩
      refine wpE_sound _ ?_
      have hno2 : okM T a b x y = false → ∀ z, z < x + 1 → ¬ GlbI T a b z := fun hok z hz => by
        by_cases hzx : z = x
        · subst hzx; exact okM_not hy hok
        · exact hno z (by omega)
      by_cases hyl : y < T.length
      · have hyl' : (y : Int) < (T.length : Int) := by omega
        have hw2 : IntKind.i64.wrap ((y : Int) + 1) = (y : Int) + 1 := i64_small _ (by omega) (by omega)
        cases hok : okM T a b x y with
        | false =>
          simp [h0, h1, h2, h7, h8, h9, hyl, hyl', hok, hw1]
          exact ⟨⟨x + 1, by simp, by omega, hno2 hok⟩, by omega⟩
        | true =>
          have hs := okM_succ hok
          simp [h0, h1, h2, h7, h8, h9, hyl, hyl', hok]
          refine (hb y a).mono ?_
          rintro v H2 ⟨rfl, rfl⟩
          cases hc1 : tbI T y a with
          | false =>
            rw [hc1] at hs
            simp [h0, h1, h2, h7, h8, h9, hw2]
            exact ⟨⟨y + 1, by simp, by omega, by rw [hs]; simp⟩, by omega⟩
          | true =>
            simp [h0, h1, h2, h7, h8, h9]
            refine (hb y b).mono ?_
            rintro v H2 ⟨rfl, rfl⟩
            cases hc2 : tbI T y b with
            | false =>
              rw [hc1, hc2] at hs
              simp [h0, h1, h2, h7, h8, h9, hw2]
              exact ⟨⟨y + 1, by simp, by omega, by rw [hs]; simp⟩, by omega⟩
            | true =>
              simp [h0, h1, h2, h7, h8, h9]
              refine (hb y x).mono ?_
              rintro v H2 ⟨rfl, rfl⟩
              rw [hc1, hc2] at hs
              simp [h0, h1, h2, h7, h8, h9, hw2]
              exact ⟨⟨y + 1, by simp, by omega, by rw [hs]; simp⟩, by omega⟩
      · obtain rfl : y = T.length := by omega
        cases hok : okM T a b x T.length with
        | false =>
          simp [h0, h1, h2, h7, h8, h9, hok, hw1]
          exact ⟨⟨x + 1, by simp, by omega, hno2 hok⟩, by omega⟩
        | true =>
          simp [h0, h1, h2, h7, h8, h9, hok]
          exact ⟨x, rfl, okM_glb hxl hok⟩
  · obtain rfl : x = T.length := by omega
    simp [h0, h1, h2, h7]
    intro z hz
    exact hno z hz.1 hz
theorem lubI_iff {T : List (List Bool)} {a b x : Nat} (ha : a < T.length) (hb : b < T.length) : LubI T a b x ↔ LubT T a b x := by
  constructor
  · rintro ⟨h1, h2, h3, h4⟩
    rw [tbI_nat ha h1] at h2; rw [tbI_nat hb h1] at h3
    exact ⟨h1, h2, h3, fun y hy h5 h6 => h4 y hy (by rw [tbI_nat ha hy]; exact h5) (by rw [tbI_nat hb hy]; exact h6)⟩
  · rintro ⟨h1, h2, h3, h4⟩
    exact ⟨h1, by rw [tbI_nat ha h1]; exact h2, by rw [tbI_nat hb h1]; exact h3, fun y hy h5 h6 => h4 y hy (by rw [tbI_nat ha hy] at h5; exact h5) (by rw [tbI_nat hb hy] at h6; exact h6)⟩
theorem glbI_iff {T : List (List Bool)} {a b x : Nat} (ha : a < T.length) (hb : b < T.length) : GlbI T a b x ↔ GlbT T a b x := by
  constructor
  · rintro ⟨h1, h2, h3, h4⟩
    rw [tbI_nat h1 ha] at h2; rw [tbI_nat h1 hb] at h3
    exact ⟨h1, h2, h3, fun y hy h5 h6 => h4 y hy (by rw [tbI_nat hy ha]; exact h5) (by rw [tbI_nat hy hb]; exact h6)⟩
  · rintro ⟨h1, h2, h3, h4⟩
    exact ⟨h1, by rw [tbI_nat h1 ha]; exact h2, by rw [tbI_nat h1 hb]; exact h3, fun y hy h5 h6 => h4 y hy (by rw [tbI_nat hy ha] at h5; exact h5) (by rw [tbI_nat hy hb] at h6; exact h6)⟩
/-! ### A table that is not in the lattice's own block -/
theorem read1_off {H : AH} {l : Nat} {L : Am.Loc} {o : Nat} {v : AV} (h : read1 R (H.set l .dead) L o = some v) : read1 R H L o = some v := by
  cases L with
  | ro b => exact h
  | mu i =>
    rw [read1_mu] at h ⊢
    by_cases hi : i = l
    · subst hi
      by_cases hi : i < H.length
      · rw [List.getElem?_set, if_pos rfl, if_pos hi] at h; simp [AO.content] at h
      · rw [List.getElem?_set, if_pos rfl, if_neg hi] at h; simp at h
    · rwa [List.getElem?_set, if_neg (Ne.symm hi)] at h
theorem Sees.off {H : AH} {l : Nat} {v : AV} {f : List AV} (h : Sees R (H.set l .dead) v f) : Sees R H v f := by
  rcases h with h | ⟨L, off, cap, h1, h2⟩
  · exact .inl h
  · exact .inr ⟨L, off, cap, h1, fun i x hx => read1_off (h2 i x hx)⟩
theorem RowS.off {H : AH} {l : Nat} {v : AV} {f : List AV} (h : RowS R (H.set l .dead) v f) : RowS R H v f := by
  rcases h with h | h
  · exact .inl (Sees.off h)
  · exact .inr h
theorem TabIn.off {H : AH} {l : Nat} {tv : AV} {T : List (List Bool)} (h : TabIn R (H.set l .dead) tv T) : TabIn R H tv T := by
  obtain ⟨rows, h1, h2, h3⟩ := h
  exact ⟨rows, Sees.off h1, h2, fun i r hr => by obtain ⟨v, h4, h5⟩ := h3 i r hr; exact ⟨v, h4, RowS.off h5⟩⟩
theorem TabIn.frame {H H' : AH} {tv : AV} {T : List (List Bool)} (h : TabIn R H tv T) (hf : ∀ i, i < H.length → H'[i]? = H[i]?) : TabIn R H' tv T := by
  obtain ⟨rows, h1, h2, h3⟩ := h
  exact ⟨rows, h1.frame hf, h2, fun i r hr => by obtain ⟨v, h4, h5⟩ := h3 i r hr; exact ⟨v, h4, h5.frame hf⟩⟩
end Go.Proofs.YtjncbipaikmogaaDoor.Latt
