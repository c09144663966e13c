/- A quick evaluator: temporaries and heap in trees, each step's work kept small. -/
import Derived.Test.YtjglohfkpigdfaaDoorAmTree
import Derived.Test.YtjglohfkpigdfaaDoorAmEval
set_option linter.unusedSimpArgs false
set_option linter.unusedVariables false
set_option linter.unusedSectionVars false
set_option linter.unnecessarySimpa false
namespace Am
open Go Go.RowKit
noncomputable section
abbrev ET := BT AV
abbrev HT := BT AO
def gE (e : ET) (t : Nat) : AV := e.get AV.undef t
def gH (h : HT) (i : Nat) : AO := h.get .dead i
def envT (e : ET) : Env := gE e
structure Sim (h : HT) (n : Nat) (H : AH) : Prop where
  len : H.length = n
  obj : ∀ i, i < n → H[i]? = some (gH h i)
  out : ∀ i, n ≤ i → gH h i = .dead
theorem Sim.at {h : HT} {n : Nat} {H : AH} (s : Sim h n H) {i : Nat} {o : AO} (ho : gH h i = o) (hl : o.live = true) : i < n ∧ H[i]? = some o := by
  by_cases hi : i < n
  · exact ⟨hi, by rw [s.obj i hi, ho]⟩
  · have := s.out i (by omega); rw [ho] at this; subst this; cases hl
theorem Sim.push {h : HT} {n : Nat} {H : AH} (s : Sim h n H) (o : AO) : Sim (h.set .dead n o) (n + 1) (H ++ [o]) := by
  refine ⟨by simp [s.len], fun i hi => ?_, fun i hi => ?_⟩
  · unfold gH
    rw [BT.get_set]
    by_cases h1 : i = n
    · subst h1; rw [if_pos rfl, List.getElem?_append_right (by rw [s.len]; exact Nat.le_refl _), s.len]; simp
    · rw [if_neg h1, List.getElem?_append_left (by rw [s.len]; omega)]
      exact s.obj i (by omega)
  · unfold gH
    rw [BT.get_set, if_neg (by omega)]
    exact s.out i (by omega)
theorem Sim.put {h : HT} {n : Nat} {H : AH} (s : Sim h n H) {i : Nat} (hi : i < n) (o : AO) : Sim (h.set .dead i o) n (H.set i o) := by
  refine ⟨by simp [s.len], fun j hj => ?_, fun j hj => ?_⟩
  · unfold gH
    rw [BT.get_set, List.getElem?_set]
    by_cases h1 : j = i
    · subst h1; simp [s.len, hi]
    · rw [if_neg h1, if_neg (Ne.symm h1)]
      exact s.obj j hj
  · unfold gH
    rw [BT.get_set, if_neg (by omega)]
    exact s.out j hj
theorem sim_nil : Sim .nil 0 [] := ⟨rfl, fun i h => by omega, fun i _ => rfl⟩
def listH (h : HT) (n : Nat) : AH := (List.range n).map (gH h)
theorem Sim.list {h : HT} {n : Nat} {H : AH} (s : Sim h n H) : listH h n = H := by
  apply List.ext_getElem?
  intro i
  unfold listH
  by_cases hi : i < n
  · rw [s.obj i hi]; simp [hi]
  · rw [List.getElem?_eq_none (by simp; omega), List.getElem?_eq_none (by rw [s.len]; omega)]
theorem envT_put (e : ET) (t : Nat) (v : AV) : (envT e).put (some t) v = envT (e.set AV.undef t v) := by
  funext s
  simp only [Env.put, Env.upd, envT, gE, BT.get_set]

/-! ### Values laid open -/
universe u
section
variable {β : Type u}
/-- The head alone. -/
def hd (v : AV) (k : AV → β) : β := AV.casesOn (motive_1 := fun _ => β) v (fun b => k (.bool b)) (fun j n => k (.int j n)) (fun s => k (.str s)) (fun l o => k (.ptr l o)) (k .nilptr) (fun l o n c => k (.slice l o n c)) (k .nilslice) (fun i => k (.map i)) (k .nilmap)
  (fun f a c => k (.fn f a c)) (k .nilfn) (fun t v => k (.iface t v)) (k .niface) (fun cs => k (.agg cs)) (fun vs => k (.tuple vs))
theorem hd_eq (v : AV) (k : AV → β) : hd v k = k v := by cases v <;> rfl
def isInt (v : AV) (k : IntKind → Int → β) (d : β) : β := AV.casesOn (motive_1 := fun _ => β) v (fun _ => d) (fun j n => k j n) (fun _ => d) (fun _ _ => d) d (fun _ _ _ _ => d) d (fun _ => d) d (fun _ _ _ => d) d (fun _ _ => d) d (fun _ => d) (fun _ => d)
def isBool (v : AV) (k : Bool → β) (d : β) : β := AV.casesOn (motive_1 := fun _ => β) v (fun b => k b) (fun _ _ => d) (fun _ => d) (fun _ _ => d) d (fun _ _ _ _ => d) d (fun _ => d) d (fun _ _ _ => d) d (fun _ _ => d) d (fun _ => d) (fun _ => d)
def isPtr (v : AV) (k : Loc → Nat → β) (d : β) : β := AV.casesOn (motive_1 := fun _ => β) v (fun _ => d) (fun _ _ => d) (fun _ => d) (fun l o => k l o) d (fun _ _ _ _ => d) d (fun _ => d) d (fun _ _ _ => d) d (fun _ _ => d) d (fun _ => d) (fun _ => d)
def isSlice (v : AV) (k : Loc → Nat → Nat → Cap → β) (kn : β) (d : β) : β := AV.casesOn (motive_1 := fun _ => β) v (fun _ => d) (fun _ _ => d) (fun _ => d) (fun _ _ => d) d (fun l o n c => k l o n c) kn (fun _ => d) d (fun _ _ _ => d) d (fun _ _ => d) d (fun _ => d) (fun _ => d)
def isAgg (v : AV) (k : List AV → β) (kt : List AV → β) (d : β) : β := AV.casesOn (motive_1 := fun _ => β) v (fun _ => d) (fun _ _ => d) (fun _ => d) (fun _ _ => d) d (fun _ _ _ _ => d) d (fun _ => d) d (fun _ _ _ => d) d (fun _ _ => d) d (fun cs => k cs) (fun vs => kt vs)
def isStr (v : AV) (k : List UInt8 → β) (d : β) : β := AV.casesOn (motive_1 := fun _ => β) v (fun _ => d) (fun _ _ => d) (fun s => k s) (fun _ _ => d) d (fun _ _ _ _ => d) d (fun _ => d) d (fun _ _ _ => d) d (fun _ _ => d) d (fun _ => d) (fun _ => d)
def isMu (l : Loc) (k : Nat → β) (kr : Nat → β) : β := Loc.casesOn (motive := fun _ => β) l kr k
end
theorem isInt_ok {v : AV} {k : IntKind → Int → Bool} (h : isInt v k false = true) : ∃ j n, v = .int j n ∧ k j n = true := by
  cases v <;> first | exact ⟨_, _, rfl, h⟩ | cases h
theorem isBool_ok {v : AV} {k : Bool → Bool} (h : isBool v k false = true) : ∃ b, v = .bool b ∧ k b = true := by
  cases v <;> first | exact ⟨_, rfl, h⟩ | cases h
theorem isPtr_ok {v : AV} {k : Loc → Nat → Bool} (h : isPtr v k false = true) : ∃ l o, v = .ptr l o ∧ k l o = true := by
  cases v <;> first | exact ⟨_, _, rfl, h⟩ | cases h
theorem isSlice_ok {v : AV} {k : Loc → Nat → Nat → Cap → Bool} {kn : Bool} (h : isSlice v k kn false = true) : (∃ l o n c, v = .slice l o n c ∧ k l o n c = true) ∨ (v = .nilslice ∧ kn = true) := by
  cases v <;> first | exact .inl ⟨_, _, _, _, rfl, h⟩ | exact .inr ⟨rfl, h⟩ | cases h
theorem isAgg_ok {v : AV} {k kt : List AV → Bool} (h : isAgg v k kt false = true) : (∃ cs, v = .agg cs ∧ k cs = true) ∨ (∃ cs, v = .tuple cs ∧ kt cs = true) := by
  cases v <;> first | exact .inl ⟨_, rfl, h⟩ | exact .inr ⟨_, rfl, h⟩ | cases h
theorem isStr_ok {v : AV} {k : List UInt8 → Bool} (h : isStr v k false = true) : ∃ s, v = .str s ∧ k s = true := by
  cases v <;> first | exact ⟨_, rfl, h⟩ | cases h

/-! ### Whole numbers -/
def mx (k : IntKind) : Nat := IntKind.casesOn (motive := fun _ => Nat) k 127 32767 2147483647 9223372036854775807 255 65535 4294967295 18446744073709551615
def neg? (k : IntKind) : Bool := IntKind.casesOn (motive := fun _ => Bool) k true true true true false false false false
section
variable {β : Type u}
def wrF (k : IntKind) (z : Int) (q : Int → β) : β := Int.casesOn (motive := fun _ => β) z
  (fun m => fN m fun m => Bool.casesOn (motive := fun _ => β) (Nat.ble m (mx k)) (fI (k.wrap (.ofNat m)) q) (q (.ofNat m)))
  (fun m => fN m fun m => Bool.casesOn (motive := fun _ => β) (neg? k && Nat.ble m (mx k)) (fI (k.wrap (.negSucc m)) q) (q (.negSucc m)))
theorem wrap_small (k : IntKind) (z : Int) (h1 : z ≤ mx k) (h2 : if neg? k then - (mx k : Int) - 1 ≤ z else 0 ≤ z) : k.wrap z = z := by
  have p8 : (2 : Int) ^ 8 = 256 := rfl
  have p16 : (2 : Int) ^ 16 = 65536 := rfl
  have p32 : (2 : Int) ^ 32 = 4294967296 := rfl
  have p64 : (2 : Int) ^ 64 = 18446744073709551616 := rfl
  have q8 : (2 : Int) ^ (8 - 1) = 128 := rfl
  have q16 : (2 : Int) ^ (16 - 1) = 32768 := rfl
  have q32 : (2 : Int) ^ (32 - 1) = 2147483648 := rfl
  have q64 : (2 : Int) ^ (64 - 1) = 9223372036854775808 := rfl
  cases k <;> simp only [mx, neg?, if_true, Bool.false_eq_true, if_false] at h1 h2 <;>
    simp only [IntKind.wrap, IntKind.bits, IntKind.signed, p8, p16, p32, p64, q8, q16, q32, q64, Bool.true_and, Bool.false_and, Bool.false_eq_true, if_false, decide_eq_true_eq] <;>
    first
    | omega
    | (split <;> omega)
theorem wrF_eq (k : IntKind) (z : Int) (q : Int → β) : wrF k z q = q (k.wrap z) := by
  cases z with
  | ofNat m =>
    show fN m (fun m => Bool.casesOn (motive := fun _ => β) (Nat.ble m (mx k)) (fI (k.wrap (.ofNat m)) q) (q (.ofNat m))) = _
    rw [fN_eq]
    cases hb : Nat.ble m (mx k)
    · exact fI_eq _ _
    · have hm := Nat.le_of_ble_eq_true hb
      show q (.ofNat m) = _
      congr 1
      refine (wrap_small k _ ?_ ?_).symm
      · exact Int.ofNat_le.2 hm
      · split <;> simp <;> omega
  | negSucc m =>
    show fN m (fun m => Bool.casesOn (motive := fun _ => β) (neg? k && Nat.ble m (mx k)) (fI (k.wrap (.negSucc m)) q) (q (.negSucc m))) = _
    rw [fN_eq]
    cases hb : (neg? k && Nat.ble m (mx k))
    · exact fI_eq _ _
    · simp only [Bool.and_eq_true] at hb
      have hm := Nat.le_of_ble_eq_true hb.2
      have hn := hb.1
      show q (.negSucc m) = _
      congr 1
      refine (wrap_small k _ ?_ ?_).symm
      · rw [Int.negSucc_eq]; omega
      · rw [if_pos hn, Int.negSucc_eq]; omega
def addF (a b : Int) (q : Int → β) : β := Int.casesOn (motive := fun _ => β) a
  (fun m => Int.casesOn (motive := fun _ => β) b (fun n => q (.ofNat (Nat.add m n))) (fun n => fI (.ofNat m + .negSucc n) q)) (fun m => fI (.negSucc m + b) q)
theorem addF_eq (a b : Int) (q : Int → β) : addF a b q = q (a + b) := by
  cases a with
  | ofNat m => cases b with
    | ofNat n => rfl
    | negSucc n => exact fI_eq _ _
  | negSucc m => exact fI_eq _ _
def subF (a b : Int) (q : Int → β) : β := Int.casesOn (motive := fun _ => β) a
  (fun m => Int.casesOn (motive := fun _ => β) b (fun n => Bool.casesOn (motive := fun _ => β) (Nat.ble n m) (fI (.ofNat m - .ofNat n) q) (q (.ofNat (Nat.sub m n)))) (fun n => fI (.ofNat m - .negSucc n) q)) (fun m => fI (.negSucc m - b) q)
theorem subF_eq (a b : Int) (q : Int → β) : subF a b q = q (a - b) := by
  cases a with
  | ofNat m => cases b with
    | ofNat n =>
      show Bool.casesOn (motive := fun _ => β) (Nat.ble n m) (fI (.ofNat m - .ofNat n) q) (q (.ofNat (Nat.sub m n))) = _
      cases hb : Nat.ble n m
      · exact fI_eq _ _
      · have := Nat.le_of_ble_eq_true hb
        show q (.ofNat (m - n)) = _
        congr 1
        simp; omega
    | negSucc n => show fI (.ofNat m - .negSucc n) q = _; exact fI_eq _ _
  | negSucc m => show fI (.negSucc m - b) q = _; exact fI_eq _ _
def mulF (a b : Int) (q : Int → β) : β := Int.casesOn (motive := fun _ => β) a
  (fun m => Int.casesOn (motive := fun _ => β) b (fun n => q (.ofNat (Nat.mul m n))) (fun n => fI (.ofNat m * .negSucc n) q)) (fun m => fI (.negSucc m * b) q)
theorem mulF_eq (a b : Int) (q : Int → β) : mulF a b q = q (a * b) := by
  cases a with
  | ofNat m => cases b with
    | ofNat n => rfl
    | negSucc n => exact fI_eq _ _
  | negSucc m => exact fI_eq _ _
/-- a < b -/
def ltF (a b : Int) : Bool := Int.casesOn (motive := fun _ => Bool) a
  (fun m => Int.casesOn (motive := fun _ => Bool) b (fun n => Nat.ble (Nat.succ m) n) (fun _ => false))
  (fun m => Int.casesOn (motive := fun _ => Bool) b (fun _ => true) (fun n => Nat.ble (Nat.succ n) m))
theorem ltF_eq (a b : Int) : ltF a b = decide (a < b) := by
  rw [Bool.eq_iff_iff]
  cases a with
  | ofNat m => cases b with
    | ofNat n =>
      show Nat.ble (m + 1) n = true ↔ _
      rw [Nat.ble_eq]; simp; omega
    | negSucc n => show false = true ↔ _; simp [Int.negSucc_eq]; omega
  | negSucc m => cases b with
    | ofNat n => show true = true ↔ _; simp [Int.negSucc_eq]; omega
    | negSucc n =>
      show Nat.ble (n + 1) m = true ↔ _
      rw [Nat.ble_eq]; simp [Int.negSucc_eq]; omega
def eqF (a b : Int) : Bool := Int.casesOn (motive := fun _ => Bool) a
  (fun m => Int.casesOn (motive := fun _ => Bool) b (fun n => Nat.beq m n) (fun _ => false))
  (fun m => Int.casesOn (motive := fun _ => Bool) b (fun _ => false) (fun n => Nat.beq m n))
theorem eqF_eq (a b : Int) : eqF a b = (a == b) := by
  rw [Bool.eq_iff_iff]
  cases a with
  | ofNat m => cases b with
    | ofNat n => show Nat.beq m n = true ↔ _; rw [Nat.beq_eq]; simp; omega
    | negSucc n => show false = true ↔ _; simp
  | negSucc m => cases b with
    | ofNat n => show false = true ↔ _; simp
    | negSucc n => show Nat.beq m n = true ↔ _; rw [Nat.beq_eq]; simp
end

/-! ### Lists -/
def nthK (c : List AV) : Nat → (AV → Bool) → Bool := List.rec (motive := fun _ => Nat → (AV → Bool) → Bool) (fun _ _ => false) (fun x _ ih i k => Nat.casesOn (motive := fun _ => Bool) i (hd x k) fun j => ih j k) c
theorem nthK_ok : ∀ {c : List AV} {i : Nat} {k : AV → Bool}, nthK c i k = true → ∃ v, c[i]? = some v ∧ k v = true
  | [], i, k, h => by cases h
  | x :: xs, 0, k, h => ⟨x, rfl, by have h : hd x k = true := h; rwa [hd_eq] at h⟩
  | x :: xs, i + 1, k, h => by
    obtain ⟨v, h1, h2⟩ := nthK_ok (c := xs) (i := i) (k := k) h
    exact ⟨v, by simpa using h1, h2⟩
def takeK (c : List AV) : Nat → (List AV → Bool) → Bool := List.rec (motive := fun _ => Nat → (List AV → Bool) → Bool) (fun m k => Nat.casesOn (motive := fun _ => Bool) m (k []) fun _ => false)
  (fun x _ ih m k => Nat.casesOn (motive := fun _ => Bool) m (k []) fun m => ih m fun l => k (x :: l)) c
theorem takeK_ok : ∀ {c : List AV} {m : Nat} {k : List AV → Bool}, takeK c m k = true → m ≤ c.length ∧ k (c.take m) = true
  | [], 0, k, h => ⟨Nat.le_refl _, h⟩
  | [], m + 1, k, h => by cases h
  | x :: xs, 0, k, h => ⟨Nat.zero_le _, h⟩
  | x :: xs, m + 1, k, h => by
    obtain ⟨h1, h2⟩ := takeK_ok (c := xs) (m := m) (k := fun l => k (x :: l)) h
    exact ⟨by simp; omega, by simpa using h2⟩
def dropK (c : List AV) : Nat → (List AV → Bool) → Bool := List.rec (motive := fun _ => Nat → (List AV → Bool) → Bool) (fun m k => Nat.casesOn (motive := fun _ => Bool) m (k []) fun _ => false)
  (fun x xs ih m k => Nat.casesOn (motive := fun _ => Bool) m (k (x :: xs)) fun m => ih m k) c
theorem dropK_ok : ∀ {c : List AV} {m : Nat} {k : List AV → Bool}, dropK c m k = true → m ≤ c.length ∧ k (c.drop m) = true
  | [], 0, k, h => ⟨Nat.le_refl _, h⟩
  | [], m + 1, k, h => by cases h
  | x :: xs, 0, k, h => ⟨Nat.zero_le _, h⟩
  | x :: xs, m + 1, k, h => by
    obtain ⟨h1, h2⟩ := dropK_ok (c := xs) (m := m) (k := k) h
    exact ⟨by simp; omega, by simpa using h2⟩
def overK (vs : List AV) : List AV → (List AV → Bool) → Bool := List.rec (motive := fun _ => List AV → (List AV → Bool) → Bool) (fun c k => k c)
  (fun v _ ih c k => List.casesOn (motive := fun _ => Bool) c false fun _ cs => ih cs fun r => k (v :: r)) vs
theorem overK_ok : ∀ {vs c : List AV} {k : List AV → Bool}, overK vs c k = true → vs.length ≤ c.length ∧ k (vs ++ c.drop vs.length) = true
  | [], c, k, h => ⟨Nat.zero_le _, h⟩
  | v :: vs, [], k, h => by cases h
  | v :: vs, x :: xs, k, h => by
    obtain ⟨h1, h2⟩ := overK_ok (vs := vs) (c := xs) (k := fun r => k (v :: r)) h
    exact ⟨by simp; omega, by simpa using h2⟩
def spliceK (vs : List AV) (c : List AV) : Nat → (List AV → Bool) → Bool := List.rec (motive := fun _ => Nat → (List AV → Bool) → Bool) (fun m k => Nat.casesOn (motive := fun _ => Bool) m (overK vs [] k) fun _ => false)
  (fun x xs ih m k => Nat.casesOn (motive := fun _ => Bool) m (overK vs (x :: xs) k) fun m => ih m fun r => k (x :: r)) c
theorem spliceK_ok : ∀ {vs c : List AV} {m : Nat} {k : List AV → Bool}, spliceK vs c m k = true → m + vs.length ≤ c.length ∧ k (splice c m vs) = true
  | vs, [], 0, k, h => by
    obtain ⟨h1, h2⟩ := overK_ok (vs := vs) (c := []) (k := k) h
    exact ⟨by simpa using h1, by simpa [splice] using h2⟩
  | vs, [], m + 1, k, h => by cases h
  | vs, x :: xs, 0, k, h => by
    obtain ⟨h1, h2⟩ := overK_ok (vs := vs) (c := x :: xs) (k := k) h
    exact ⟨by simpa using h1, by simpa [splice] using h2⟩
  | vs, x :: xs, m + 1, k, h => by
    obtain ⟨h1, h2⟩ := spliceK_ok (vs := vs) (c := xs) (m := m) (k := fun r => k (x :: r)) h
    refine ⟨by simp; omega, ?_⟩
    have : splice (x :: xs) (m + 1) vs = x :: splice xs m vs := by
      simp only [splice, List.take_succ_cons, List.cons_append]
      congr 2
      rw [show m + 1 + vs.length = m + vs.length + 1 from by omega, List.drop_succ_cons]
    rw [this]; exact h2
def appK (a b : List AV) : (List AV → Bool) → Bool := List.rec (motive := fun _ => (List AV → Bool) → Bool) (fun k => k b) (fun x _ ih k => ih fun r => k (x :: r)) a
theorem appK_eq : ∀ (a b : List AV) (k : List AV → Bool), appK a b k = k (a ++ b)
  | [], b, k => rfl
  | x :: xs, b, k => by show appK xs b (fun r => k (x :: r)) = _; rw [appK_eq]; rfl
def one1 (v : AV) : Bool := AV.casesOn (motive_1 := fun _ => Bool) v (fun _ => true) (fun _ _ => true) (fun _ => true) (fun _ _ => true) true (fun _ _ _ _ => true) true (fun _ => true) true (fun _ _ _ => true) true (fun _ _ => true) true (fun _ => false) (fun _ => false)
theorem one1_eq (v : AV) : one1 v = v.oneCell := by cases v <;> rfl
def ones (c : List AV) : Bool := List.rec (motive := fun _ => Bool) true (fun x _ ih => Bool.casesOn (motive := fun _ => Bool) (one1 x) false ih) c
theorem ones_eq : ∀ (c : List AV), ones c = c.all AV.oneCell
  | [] => rfl
  | x :: xs => by
    show Bool.casesOn (motive := fun _ => Bool) (one1 x) false (ones xs) = _
    rw [one1_eq, ones_eq xs, List.all_cons]
    cases x.oneCell <;> rfl
def lenK (c : List AV) : Nat := List.rec (motive := fun _ => Nat) 0 (fun _ _ ih => Nat.succ ih) c
theorem lenK_eq : ∀ (c : List AV), lenK c = c.length
  | [] => rfl
  | x :: xs => by show Nat.succ (lenK xs) = _; rw [lenK_eq]; rfl
/-- The cells of a value. -/
def cellsK (v : AV) (k : List AV → Bool) : Bool := isAgg v k (fun vs => k [.tuple vs]) (hd v fun v => k [v])
theorem cellsK_eq (v : AV) (k : List AV → Bool) : cellsK v k = k v.cells := by cases v <;> rfl
/-- An object's content, and what it becomes. -/
def withK (o : AO) (k : List AV → (List AV → AO) → Bool) : Bool := AO.casesOn (motive := fun _ => Bool) o (fun c t => k c fun c => .cells c t) (fun c t sz => k c fun c => .row c t sz) (fun _ _ => false) (fun _ _ => false) false
theorem withK_ok {o : AO} {k : List AV → (List AV → AO) → Bool} (h : withK o k = true) : ∃ c, o.content = some c ∧ o.live = true ∧ k c o.withContent = true := by
  cases o <;> first | exact ⟨_, rfl, rfl, h⟩ | cases h
end
end Am
