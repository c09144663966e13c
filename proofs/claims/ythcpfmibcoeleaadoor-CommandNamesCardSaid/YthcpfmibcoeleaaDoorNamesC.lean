/- CommandNames: what the law's code computes, of any number. -/
import Derived.Test.YthcpfmibcoeleaaDoorNamesB0
import Derived.Test.YthcpfmibcoeleaaDoorNamesB1
import Derived.Test.YthcpfmibcoeleaaDoorNamesB2
import Derived.Test.YthcpfmibcoeleaaDoorNamesB3
import Derived.Test.YthcpfmibcoeleaaDoorNamesB4
import Derived.Test.YthcpfmibcoeleaaDoorNamesB5
import Derived.Test.YthcpfmibcoeleaaDoorNamesB6
namespace Go.Proofs.YthcpfmibcoeleaaDoor.Names
open Go Go.RowKit Am
set_option maxRecDepth 100000
set_option linter.unusedSimpArgs false
set_option linter.unusedVariables false
theorem all_ok (m : Int) (l0 o0 l1 o1 : Nat) (n r : Int) (h1 : -53 < r) (h2 : r < 53) : EV m l0 o0 l1 o1 n r = true := by
  have e0 := List.all_eq_true.1 (ev0 m l0 o0 l1 o1 n) r
  have e1 := List.all_eq_true.1 (ev1 m l0 o0 l1 o1 n) r
  have e2 := List.all_eq_true.1 (ev2 m l0 o0 l1 o1 n) r
  have e3 := List.all_eq_true.1 (ev3 m l0 o0 l1 o1 n) r
  have e4 := List.all_eq_true.1 (ev4 m l0 o0 l1 o1 n) r
  have e5 := List.all_eq_true.1 (ev5 m l0 o0 l1 o1 n) r
  have e6 := List.all_eq_true.1 (ev6 m l0 o0 l1 o1 n) r
  simp only [List.mem_cons, List.not_mem_nil, or_false] at e0 e1 e2 e3 e4 e5 e6
  by_cases h10 : r = (-52) ∨ r = (-45) ∨ r = (-38) ∨ r = (-31) ∨ r = (-24) ∨ r = (-17) ∨ r = (-10) ∨ r = (-3) ∨ r = 4 ∨ r = 11 ∨ r = 18 ∨ r = 25 ∨ r = 32 ∨ r = 39 ∨ r = 46
  · exact e0 h10
  by_cases h11 : r = (-51) ∨ r = (-44) ∨ r = (-37) ∨ r = (-30) ∨ r = (-23) ∨ r = (-16) ∨ r = (-9) ∨ r = (-2) ∨ r = 5 ∨ r = 12 ∨ r = 19 ∨ r = 26 ∨ r = 33 ∨ r = 40 ∨ r = 47
  · exact e1 h11
  by_cases h12 : r = (-50) ∨ r = (-43) ∨ r = (-36) ∨ r = (-29) ∨ r = (-22) ∨ r = (-15) ∨ r = (-8) ∨ r = (-1) ∨ r = 6 ∨ r = 13 ∨ r = 20 ∨ r = 27 ∨ r = 34 ∨ r = 41 ∨ r = 48
  · exact e2 h12
  by_cases h13 : r = (-49) ∨ r = (-42) ∨ r = (-35) ∨ r = (-28) ∨ r = (-21) ∨ r = (-14) ∨ r = (-7) ∨ r = 0 ∨ r = 7 ∨ r = 14 ∨ r = 21 ∨ r = 28 ∨ r = 35 ∨ r = 42 ∨ r = 49
  · exact e3 h13
  by_cases h14 : r = (-48) ∨ r = (-41) ∨ r = (-34) ∨ r = (-27) ∨ r = (-20) ∨ r = (-13) ∨ r = (-6) ∨ r = 1 ∨ r = 8 ∨ r = 15 ∨ r = 22 ∨ r = 29 ∨ r = 36 ∨ r = 43 ∨ r = 50
  · exact e4 h14
  by_cases h15 : r = (-47) ∨ r = (-40) ∨ r = (-33) ∨ r = (-26) ∨ r = (-19) ∨ r = (-12) ∨ r = (-5) ∨ r = 2 ∨ r = 9 ∨ r = 16 ∨ r = 23 ∨ r = 30 ∨ r = 37 ∨ r = 44 ∨ r = 51
  · exact e5 h15
  by_cases h16 : r = (-46) ∨ r = (-39) ∨ r = (-32) ∨ r = (-25) ∨ r = (-18) ∨ r = (-11) ∨ r = (-4) ∨ r = 3 ∨ r = 10 ∨ r = 17 ∨ r = 24 ∨ r = 31 ∨ r = 38 ∨ r = 45 ∨ r = 52
  · exact e6 h16
  omega
theorem tmod_lt (n : Int) : -53 < n.tmod 53 ∧ n.tmod 53 < 53 := ⟨Int.lt_tmod_of_pos n (by decide), Int.tmod_lt_of_pos n (by decide)⟩
theorem names (m : Int) (l0 o0 l1 o1 : Nat) (n : Int) : ACalls Tryd.prog (Laid.ro m l0 o0 l1 o1) 7 [.int .i64 n] [] fun v _ => v = .bool true := by
  refine ACalls.of_body Fns.ok7 (by simp [Fns.a7]) ?_
  rw [body_eq]
  refine AWp.seq (wpE_sound _ ?_)
  simp [pA, AC.fst, AC.snd, Fns.a7]
  refine AWp.seq (wpE_sound _ ?_)
  simp [pB, AC.fst, AC.snd, Fns.a7]
  refine (names_acalls _ _).mono ?_
  rintro v H' ⟨rfl, rfl⟩
  simp
  refine AWp.seq (wpE_sound _ ?_)
  simp [pC, AC.fst, AC.snd, Fns.a7]
  refine AWp.seq (wpE_sound _ ?_)
  simp [pD, AC.fst, AC.snd, Fns.a7]
  have := rest_ok m l0 o0 l1 o1 n (n.tmod 53) (all_ok m l0 o0 l1 o1 n _ (tmod_lt n).1 (tmod_lt n).2)
  simp only [env0_tree, upd_tree]
  exact this
end Go.Proofs.YthcpfmibcoeleaaDoor.Names
