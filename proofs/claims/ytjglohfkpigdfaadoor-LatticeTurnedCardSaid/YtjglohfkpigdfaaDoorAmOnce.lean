/- sync.Once's slow road: a function with deferred calls, as a contract. -/
import Derived.Test.YtjglohfkpigdfaaDoorAmCtr
import Derived.Defers
set_option linter.unusedSimpArgs false
set_option linter.unusedVariables false
set_option linter.unusedSectionVars false
set_option linter.unnecessarySimpa false
namespace Am
open Go Go.RowKit
noncomputable section
section
variable {P : Program} {R : Ro}
/-- A deferred call, the function that defers it returning. -/
def ACallsD (P : Program) (R : Ro) (f : FuncId) (args : List AV) (H : AH) (Q : AV → AH → Prop) : Prop :=
  ∀ base, ROk R base → ∀ ρ w Vs, Rel base ρ H w → renL ρ args = some Vs →
    CallsD P f Vs.toArray .returning w fun e u w' => u = .returning ∧ ∃ v V ρ' H', e = .returned V ∧ Ext ρ ρ' ∧ Rel base ρ' H' w' ∧ ren ρ' v = some V ∧ Q v H'
theorem ACallsD.mono {f : FuncId} {args : List AV} {H : AH} {K K' : AV → AH → Prop} (h : ACallsD P R f args H K) (hk : ∀ v H', K v H' → K' v H') : ACallsD P R f args H K' :=
  fun base hR ρ w Vs hrel hV => (h base hR ρ w Vs hrel hV).mono fun e u w' ⟨h0, v, V, ρ', H', h1, h2, h3, h4, h5⟩ => ⟨h0, v, V, ρ', H', h1, h2, h3, h4, hk _ _ h5⟩
theorem ACallsD.of_body {f : FuncId} {af : AFn} (hf : FnOk P f af) {args : List AV} (hn : args.length ≤ af.nt) {H : AH} {K : AV → AH → Prop} (h : AWp P R af.nt af.body (QRet R af.res K) (env0 args) H) : ACallsD P R f args H K := by
  intro base hR ρ w Vs hrel hV
  obtain ⟨fn, c, h1, h2, h3, h4, h5⟩ := hf
  have hlen := renL_length hV
  refine callsD_of_wp h1 h2 (wp_mono (h c h4 base hR ρ { tmps := Vs.toArray ++ Array.replicate (fn.ntmps - Vs.toArray.size) Go.undef, defers := [] } w ⟨hrel, ?_, fun t => ?_, rfl⟩) ?_)
  · simp; omega
  · simp only [env0]
    by_cases ht : t < args.length
    · obtain ⟨x, hx, hr⟩ := renL_getElem? hV t args[t] (List.getElem?_eq_getElem ht)
      have : args.getD t AV.undef = args[t] := by simp [ht]
      rw [this, hr]
      congr 1
      have hlt : t < Vs.length := by omega
      rw [List.getElem?_eq_getElem hlt] at hx
      simp only [Array.getD_eq_getD_getElem?]
      rw [Array.getElem?_append_left (by simpa using hlt)]
      simp [hlt] at hx ⊢
      exact hx.symm
    · have : args.getD t AV.undef = AV.undef := by simp [Nat.le_of_not_lt ht]
      rw [this]
      simp only [Array.getD_eq_getD_getElem?]
      rw [Array.getElem?_append_right (by simp; omega)]
      simp only [Array.getElem?_replicate]
      split <;> rfl
  · intro ex a1 w1 hh
    have key : (∃ ρ' env H, Ext ρ ρ' ∧ St base ρ' env H a1 w1 af.nt ∧ (match resE R env H af.res with | some vs => K (resV vs) H | none => False)) →
        a1.defers = [] ∧ ∃ v, (results fn a1.tmps).run P w1 = .ok v w1 ∧ ∃ v' V ρ' H', Ending.returned v = .returned V ∧ Ext ρ ρ' ∧ Rel base ρ' H' w1 ∧ ren ρ' v' = some V ∧ K v' H' := by
      rintro ⟨ρ', env, H', hx, hs, hk⟩
      split at hk
      · rename_i vs hvs
        obtain ⟨V, e1, e2⟩ := results_sound hR hs h5 hvs
        exact ⟨hs.defers, V, e2, resV vs, V, ρ', H', rfl, hx, hs.rel, e1, hk⟩
      · exact hk.elim
    cases ex with
    | normal => exact key hh
    | ret => exact key hh
    | exit id => simp only [AQ, QRet] at hh; obtain ⟨_, _, _, _, _, hh⟩ := hh; exact hh.elim
    | goto l => exact hh.elim
    | panic ch => exact hh.elim
    | outgrown => exact hh.elim
def callD (m : M) (af : AFn) (args : List AV) (h : HT) (n : Nat) (k : HT → Nat → Bool) : Bool := chk (Nat.ble (lenK args) af.nt) (argsE args 0 .nil fun e => m.code af.body e h n fun ex e h n => match ex with
    | .normal | .ret => resK e h af.res fun _ => k h n
    | _ => false)
theorem callD_ok {m : M} (hc : GoodBody P R m) {f : FuncId} {af : AFn} (hf : FnOk P f af) {args : List AV} {h : HT} {n : Nat} {k : HT → Nat → Bool} (hk : callD m af args h n k = true) {H : AH} (s : Sim h n H) :
    ACallsD P R f args H fun _ H' => ∃ h' n', Sim h' n' H' ∧ k h' n' = true := by
  obtain ⟨h1, hk⟩ := chk_ok hk
  have h1 := Nat.le_of_ble_eq_true h1
  rw [lenK_eq] at h1
  obtain ⟨e, he, hk⟩ := argsE_ok _ _ _ _ hk
  refine ACallsD.of_body hf h1 ?_
  have henv : env0 args = envT e := by
    funext t
    have := he t
    simp only [Nat.zero_le, true_and, Nat.zero_add, Nat.sub_zero] at this
    show args.getD t AV.undef = gE e t
    rw [this]
    split
    · rfl
    · rename_i hlt
      simp [Nat.le_of_not_lt hlt]; rfl
  rw [henv]
  refine (hc _ _ _ _ _ _ _ s hk).mono ?_
  rintro ex e1 H1 ⟨e', h', n', rfl, s', hk'⟩
  cases ex <;> first
    | (obtain ⟨vs, h2, hk'⟩ := resK_ok (R := R) s' hk'
       simp only [QRet, h2]
       exact ⟨h', n', s', hk'⟩)
    | cases hk'
/-- What the slow road's own code does, the calls' contracts given. -/
def OnceLaw (P : Program) (slow lock load store unlock dM : Nat) : Prop := ∀ (w : World) (b o : Nat) (f : FuncId) (fst cap : Array Value) (R : Ending → World → Prop), bodied P f = true →
    (Calls P lock #[.pointer (some ⟨b, o + dM, none⟩)] w fun e w1 => (∃ v, e = .returned v) ∧
      Calls P load #[.pointer (some ⟨b, o, none⟩)] w1 fun e w2 => ∃ t, e = .returned (.bool t) ∧
        (t = true → CallsD P unlock #[.pointer (some ⟨b, o + dM, none⟩)] .returning w2 fun e u w3 => u = .returning ∧ (∃ v, e = .returned v) ∧ R (.returned (.tuple #[])) w3) ∧
        (t = false → Calls P f (fst ++ cap) w2 fun e w3 => (∃ v, e = .returned v) ∧
          CallsD P store #[.pointer (some ⟨b, o, none⟩), .bool true] .returning w3 fun e u w4 => u = .returning ∧ (∃ v, e = .returned v) ∧
            CallsD P unlock #[.pointer (some ⟨b, o + dM, none⟩)] .returning w4 fun e u w5 => u = .returning ∧ (∃ v, e = .returned v) ∧ R (.returned (.tuple #[])) w5)) →
    Calls P slow #[.pointer (some ⟨b, o, none⟩), .func (.func f) fst cap] w R
theorem once_sym {slow lock load store unlock dM : Nat} (hlaw : OnceLaw P slow lock load store unlock dM) {i o : Nat} {f : FuncId} {fst cap : List AV} (hb : bodied P f = true) {H : AH} {K : AV → AH → Prop}
    (h : ACalls P R lock [.ptr (.mu i) (o + dM)] H fun _ H1 => ACalls P R load [.ptr (.mu i) o] H1 fun v H2 => v = .bool false ∧ ACalls P R f (fst ++ cap) H2 fun _ H3 => ACallsD P R store [.ptr (.mu i) o, .bool true] H3 fun _ H4 =>
      ACallsD P R unlock [.ptr (.mu i) (o + dM)] H4 fun _ H5 => K (.tuple []) H5) : ACalls P R slow [.ptr (.mu i) o, .fn (.func f) fst cap] H K := by
  intro base hR ρ w Vs hrel hV
  obtain ⟨x, xs, hx1, hxs, rfl⟩ := renL_cons hV
  obtain ⟨y, ys, hy1, hys, rfl⟩ := renL_cons hxs
  obtain rfl := renL_nil hys
  simp only [ren, Loc.addr, Option.map_eq_some_iff] at hx1
  obtain ⟨a, ⟨p, hp, rfl⟩, rfl⟩ := hx1
  simp only [ren] at hy1
  split at hy1
  · rename_i F C hF hC
    cases hy1
    have hptr : ∀ {ρ'}, Ext ρ ρ' → ∀ d, renL ρ' [.ptr (.mu i) (o + d)] = some [.pointer (some ⟨p.blk, p.sh + o + d, none⟩)] := fun {ρ'} hx d => by
      simp [renL, ren, Loc.addr, hx.get hp, Nat.add_assoc]
    have hptr0 : ∀ {ρ'}, Ext ρ ρ' → renL ρ' [.ptr (.mu i) o] = some [.pointer (some ⟨p.blk, p.sh + o, none⟩)] := fun {ρ'} hx => by
      simp [renL, ren, Loc.addr, hx.get hp]
    refine hlaw w p.blk (p.sh + o) f F.toArray C.toArray _ hb ?_
    refine (h base hR ρ w _ hrel (hptr (Ext.refl _) dM)).mono ?_
    rintro e w1 ⟨v, V, ρ1, H1, rfl, hx1, hr1, _, hk1⟩
    refine ⟨⟨V, rfl⟩, ?_⟩
    refine (hk1 base hR ρ1 w1 _ hr1 (hptr0 hx1)).mono ?_
    rintro e w2 ⟨v, V, ρ2, H2, rfl, hx2, hr2, hv2, rfl, hk2⟩
    have hx2 := hx1.trans hx2
    refine ⟨false, by simp only [ren, Option.some.injEq] at hv2; rw [← hv2], fun ht => (by cases ht), fun _ => ?_⟩
    have hfc := renL_append (renL_ext hx2 hF) (renL_ext hx2 hC)
    have := hk2 base hR ρ2 w2 _ hr2 hfc
    rw [show (F ++ C).toArray = F.toArray ++ C.toArray from by simp] at this
    refine this.mono ?_
    rintro e w3 ⟨v, V, ρ3, H3, rfl, hx3, hr3, _, hk3⟩
    have hx3 := hx2.trans hx3
    refine ⟨⟨V, rfl⟩, ?_⟩
    refine (hk3 base hR ρ3 w3 _ hr3 (show renL ρ3 [.ptr (.mu i) o, .bool true] = some [.pointer (some ⟨p.blk, p.sh + o, none⟩), .bool true] by simp [renL, ren, Loc.addr, hx3.get hp])).mono ?_
    rintro e u w4 ⟨rfl, v, V, ρ4, H4, rfl, hx4, hr4, _, hk4⟩
    have hx4 := hx3.trans hx4
    refine ⟨rfl, ⟨V, rfl⟩, ?_⟩
    refine (hk4 base hR ρ4 w4 _ hr4 (hptr hx4 dM)).mono ?_
    rintro e u w5 ⟨rfl, v, V, ρ5, H5, rfl, hx5, hr5, _, hk5⟩
    exact ⟨rfl, ⟨V, rfl⟩, .tuple [], .tuple #[], ρ5, H5, rfl, hx4.trans hx5, hr5, rfl, hk5⟩
  · cases hy1
def ctrOnce (P : Program) (lock load : FuncId) (afS afU : AFn) (dM : Nat) : Ctr := fun m args h n k => match args with
  | [.ptr (.mu i) o, .fn (.func f) fst cap] => chk (bodied P f) (m.call lock [.ptr (.mu i) (o + dM)] h n fun _ h n => m.call load [.ptr (.mu i) o] h n fun v h n => isBool v (fun t => Bool.casesOn (motive := fun _ => Bool) t
      (appK fst cap fun as => m.call f as h n fun _ h n => callD m afS [.ptr (.mu i) o, .bool true] h n fun h n => callD m afU [.ptr (.mu i) (o + dM)] h n fun h n => k (.tuple []) h n)
      (callD m afU [.ptr (.mu i) (o + dM)] h n fun h n => k (.tuple []) h n)) false)
  | _ => false
theorem ctrOnce_ok {slow lock load store unlock dM : Nat} {afS afU : AFn} (hlaw : OnceLaw P slow lock load store unlock dM) (hS : FnOk P store afS) (hU : FnOk P unlock afU) {m : M} (hm : GoodCall P R m) (hc : GoodBody P R m)
    {args : List AV} {h : HT} {n : Nat} {k : AV → HT → Nat → Bool} {H : AH} (s : Sim h n H) (hk : ctrOnce P lock load afS afU dM m args h n k = true) : ACalls P R slow args H (PostC k) := by
  unfold ctrOnce at hk
  split at hk
  · rename_i i o f fst cap
    obtain ⟨hb, hk⟩ := chk_ok hk
    intro base hR ρ w Vs hrel hV
    obtain ⟨x, xs, hx1, hxs, rfl⟩ := renL_cons hV
    obtain ⟨y, ys, hy1, hys, rfl⟩ := renL_cons hxs
    obtain rfl := renL_nil hys
    have hx1' := hx1
    simp only [ren, Loc.addr, Option.map_eq_some_iff] at hx1
    obtain ⟨a, ⟨p, hp, rfl⟩, rfl⟩ := hx1
    simp only [ren] at hy1
    split at hy1
    · rename_i F C hF hC
      cases hy1
      have hptr : ∀ {ρ'}, Ext ρ ρ' → ∀ d, renL ρ' [.ptr (.mu i) (o + d)] = some [.pointer (some ⟨p.blk, p.sh + o + d, none⟩)] := fun {ρ'} hx d => by
        simp [renL, ren, Loc.addr, hx.get hp, Nat.add_assoc]
      have hptr0 : ∀ {ρ'}, Ext ρ ρ' → renL ρ' [.ptr (.mu i) o] = some [.pointer (some ⟨p.blk, p.sh + o, none⟩)] := fun {ρ'} hx => by
        simp [renL, ren, Loc.addr, hx.get hp]
      refine hlaw w p.blk (p.sh + o) f F.toArray C.toArray _ hb ?_
      refine (hm _ _ _ _ _ _ s hk base hR ρ w _ hrel (hptr (Ext.refl _) dM)).mono ?_
      rintro e w1 ⟨v, V, ρ1, H1, rfl, hx1, hr1, _, h1, n1, s1, hk1⟩
      refine ⟨⟨V, rfl⟩, ?_⟩
      refine (hm _ _ _ _ _ _ s1 hk1 base hR ρ1 w1 _ hr1 (hptr0 hx1)).mono ?_
      rintro e w2 ⟨v, V, ρ2, H2, rfl, hx2, hr2, hv2, h2, n2, s2, hk2⟩
      obtain ⟨t, rfl, hk2⟩ := isBool_ok hk2
      have hx2 := hx1.trans hx2
      refine ⟨t, by simp only [ren, Option.some.injEq] at hv2; rw [← hv2], fun ht => ?_, fun ht => ?_⟩
      · subst ht
        refine (callD_ok hc hU hk2 s2 base hR ρ2 w2 _ hr2 (hptr hx2 dM)).mono ?_
        rintro e u w3 ⟨rfl, v, V, ρ3, H3, rfl, hx3, hr3, _, h3, n3, s3, hk3⟩
        exact ⟨rfl, ⟨V, rfl⟩, .tuple [], .tuple #[], ρ3, H3, rfl, hx2.trans hx3, hr3, rfl, h3, n3, s3, hk3⟩
      · subst ht
        have hk2 : appK fst cap (fun as => m.call f as h2 n2 fun _ h n => callD m afS [.ptr (.mu i) o, .bool true] h n fun h n => callD m afU [.ptr (.mu i) (o + dM)] h n fun h n => k (.tuple []) h n) = true := hk2
        rw [appK_eq] at hk2
        have hfc := renL_append (renL_ext hx2 hF) (renL_ext hx2 hC)
        have := (hm _ _ _ _ _ _ s2 hk2 base hR ρ2 w2 _ hr2 hfc)
        rw [show (F ++ C).toArray = F.toArray ++ C.toArray from by simp] at this
        refine this.mono ?_
        rintro e w3 ⟨v, V, ρ3, H3, rfl, hx3, hr3, _, h3, n3, s3, hk3⟩
        have hx3 := hx2.trans hx3
        refine ⟨⟨V, rfl⟩, ?_⟩
        refine (callD_ok hc hS hk3 s3 base hR ρ3 w3 _ hr3 (show renL ρ3 [.ptr (.mu i) o, .bool true] = some [.pointer (some ⟨p.blk, p.sh + o, none⟩), .bool true] by simp [renL, ren, Loc.addr, hx3.get hp])).mono ?_
        rintro e u w4 ⟨rfl, v, V, ρ4, H4, rfl, hx4, hr4, _, h4, n4, s4, hk4⟩
        have hx4 := hx3.trans hx4
        refine ⟨rfl, ⟨V, rfl⟩, ?_⟩
        refine (callD_ok hc hU hk4 s4 base hR ρ4 w4 _ hr4 (hptr hx4 dM)).mono ?_
        rintro e u w5 ⟨rfl, v, V, ρ5, H5, rfl, hx5, hr5, _, h5, n5, s5, hk5⟩
        exact ⟨rfl, ⟨V, rfl⟩, .tuple [], .tuple #[], ρ5, H5, rfl, hx4.trans hx5, hr5, rfl, h5, n5, s5, hk5⟩
    · cases hy1
  · cases hk
end
end
end Am
