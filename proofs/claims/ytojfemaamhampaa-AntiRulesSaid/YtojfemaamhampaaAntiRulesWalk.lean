/- tansylaw5.AntiRules: the walk. -/
import Derived.Test.YtojfemaamhampaaRulesL5
namespace Go.Proofs.Ytojfemaamhampaa
open Go.RowKit
set_option linter.unusedSimpArgs false
set_option linter.unusedVariables false

set_option maxRecDepth 100000 in
theorem antiRules_out (a b d : Option Addr) (c e k : Nat) (vs us ts : List SV) (w : World) (h1 : Arg5 w a vs) (h2 : Arg5 w b us) (h3 : Arg5 w d ts) (hs : ¬ SmallW [⟨a, c, vs⟩, ⟨b, e, us⟩, ⟨d, k, ts⟩]) :
    Calls Try.prog 5 #[.slice a vs.length c, .slice b us.length e, .slice d ts.length k] w fun e' w' => e' = .returned (.bool true) ∧ Frame [] w w' := by
  have SS := small_three a b d c e k vs us ts w h1 h2 h3
  rw [decide_eq_false hs] at SS
  have HS := Lib.hid SS
  clear SS
  clear h1 h2 h3 hs
  go_enter Try.func5, Try.ntmps5
  go_wp2_with fail
  refine HS.out.mono ?_
  rintro e' w1 ⟨rfl, f1⟩
  have F := Lib.hid f1
  clear f1
  go_wp2_with fail
  refine (awake5 _).mono ?_
  rintro e' wz ⟨rfl, fz⟩
  go_wp2_with fail
  go_ret
  exact ⟨rfl, F.out.trans1 fz⟩
set_option maxRecDepth 100000 in
theorem antiRules_bad1 (a b d : Option Addr) (c e k : Nat) (vs us ts : List SV) (w : World) (h1 : Arg5 w a vs) (h2 : Arg5 w b us) (h3 : Arg5 w d ts) (hs : SmallW [⟨a, c, vs⟩, ⟨b, e, us⟩, ⟨d, k, ts⟩]) (g1 : goodL (vs.map (·.l)) = false) :
    Calls Try.prog 5 #[.slice a vs.length c, .slice b us.length e, .slice d ts.length k] w fun e' w' => e' = .returned (.bool true) ∧ Frame [] w w' := by
  have SS := small_three a b d c e k vs us ts w h1 h2 h3
  rw [decide_eq_true hs] at SS
  have HS := Lib.hid SS
  clear SS
  obtain ⟨⟨p1, l1⟩, ⟨p2, l2⟩, p3, l3⟩ := small_parts3 hs
  have R1 := Lib.hid (h1.rv l1)
  have R2 := Lib.hid (h2.rv l2)
  have R3 := Lib.hid (h3.rv l3)
  have G1 : Hid (∀ w', Frame [] w w' → Calls Try.prog 14 #[.slice a vs.length c] w' fun e' w'' => e' = .returned (.bool (goodL (vs.map (·.l)))) ∧ Frame [] w' w'') := fun w' f => good_any a c vs w' (R1.out.frame f) (by omega)
  rw [g1] at G1
  clear g1 l1 l2 l3 R1 R2 R3
  clear h1 h2 h3 hs
  go_enter Try.func5, Try.ntmps5
  go_wp2_with fail
  refine HS.out.mono ?_
  rintro e' w1 ⟨rfl, f1⟩
  have F := Lib.hid f1
  clear f1
  go_wp2_with fail
  refine (G1.out _ F.out).mono ?_
  rintro e' w1 ⟨rfl, f1⟩
  have F := Lib.hid (F.out.trans1 f1)
  clear f1
  go_wp2_with fail
  refine (awake5 _).mono ?_
  rintro e' wz ⟨rfl, fz⟩
  go_wp2_with fail
  go_ret
  exact ⟨rfl, F.out.trans1 fz⟩
set_option maxRecDepth 100000 in
theorem antiRules_bad2 (a b d : Option Addr) (c e k : Nat) (vs us ts : List SV) (w : World) (h1 : Arg5 w a vs) (h2 : Arg5 w b us) (h3 : Arg5 w d ts) (hs : SmallW [⟨a, c, vs⟩, ⟨b, e, us⟩, ⟨d, k, ts⟩]) (g1 : goodL (vs.map (·.l)) = true) (g2 : goodL (us.map (·.l)) = false) :
    Calls Try.prog 5 #[.slice a vs.length c, .slice b us.length e, .slice d ts.length k] w fun e' w' => e' = .returned (.bool true) ∧ Frame [] w w' := by
  have SS := small_three a b d c e k vs us ts w h1 h2 h3
  rw [decide_eq_true hs] at SS
  have HS := Lib.hid SS
  clear SS
  obtain ⟨⟨p1, l1⟩, ⟨p2, l2⟩, p3, l3⟩ := small_parts3 hs
  have R1 := Lib.hid (h1.rv l1)
  have R2 := Lib.hid (h2.rv l2)
  have R3 := Lib.hid (h3.rv l3)
  have G1 : Hid (∀ w', Frame [] w w' → Calls Try.prog 14 #[.slice a vs.length c] w' fun e' w'' => e' = .returned (.bool (goodL (vs.map (·.l)))) ∧ Frame [] w' w'') := fun w' f => good_any a c vs w' (R1.out.frame f) (by omega)
  rw [g1] at G1
  have G2 : Hid (∀ w', Frame [] w w' → Calls Try.prog 14 #[.slice b us.length e] w' fun e' w'' => e' = .returned (.bool (goodL (us.map (·.l)))) ∧ Frame [] w' w'') := fun w' f => good_any b e us w' (R2.out.frame f) (by omega)
  rw [g2] at G2
  clear g1 g2 l1 l2 l3 R1 R2 R3
  clear h1 h2 h3 hs
  go_enter Try.func5, Try.ntmps5
  go_wp2_with fail
  refine HS.out.mono ?_
  rintro e' w1 ⟨rfl, f1⟩
  have F := Lib.hid f1
  clear f1
  go_wp2_with fail
  refine (G1.out _ F.out).mono ?_
  rintro e' w1 ⟨rfl, f1⟩
  have F := Lib.hid (F.out.trans1 f1)
  clear f1
  go_wp2_with fail
  refine (G2.out _ F.out).mono ?_
  rintro e' w1 ⟨rfl, f1⟩
  have F := Lib.hid (F.out.trans1 f1)
  clear f1
  go_wp2_with fail
  refine (awake5 _).mono ?_
  rintro e' wz ⟨rfl, fz⟩
  go_wp2_with fail
  go_ret
  exact ⟨rfl, F.out.trans1 fz⟩
set_option maxRecDepth 100000 in
theorem antiRules_bad3 (a b d : Option Addr) (c e k : Nat) (vs us ts : List SV) (w : World) (h1 : Arg5 w a vs) (h2 : Arg5 w b us) (h3 : Arg5 w d ts) (hs : SmallW [⟨a, c, vs⟩, ⟨b, e, us⟩, ⟨d, k, ts⟩]) (g1 : goodL (vs.map (·.l)) = true) (g2 : goodL (us.map (·.l)) = true) (g3 : goodL (ts.map (·.l)) = false) :
    Calls Try.prog 5 #[.slice a vs.length c, .slice b us.length e, .slice d ts.length k] w fun e' w' => e' = .returned (.bool true) ∧ Frame [] w w' := by
  have SS := small_three a b d c e k vs us ts w h1 h2 h3
  rw [decide_eq_true hs] at SS
  have HS := Lib.hid SS
  clear SS
  obtain ⟨⟨p1, l1⟩, ⟨p2, l2⟩, p3, l3⟩ := small_parts3 hs
  have R1 := Lib.hid (h1.rv l1)
  have R2 := Lib.hid (h2.rv l2)
  have R3 := Lib.hid (h3.rv l3)
  have G1 : Hid (∀ w', Frame [] w w' → Calls Try.prog 14 #[.slice a vs.length c] w' fun e' w'' => e' = .returned (.bool (goodL (vs.map (·.l)))) ∧ Frame [] w' w'') := fun w' f => good_any a c vs w' (R1.out.frame f) (by omega)
  rw [g1] at G1
  have G2 : Hid (∀ w', Frame [] w w' → Calls Try.prog 14 #[.slice b us.length e] w' fun e' w'' => e' = .returned (.bool (goodL (us.map (·.l)))) ∧ Frame [] w' w'') := fun w' f => good_any b e us w' (R2.out.frame f) (by omega)
  rw [g2] at G2
  have G3 : Hid (∀ w', Frame [] w w' → Calls Try.prog 14 #[.slice d ts.length k] w' fun e' w'' => e' = .returned (.bool (goodL (ts.map (·.l)))) ∧ Frame [] w' w'') := fun w' f => good_any d k ts w' (R3.out.frame f) (by omega)
  rw [g3] at G3
  clear g1 g2 g3 l1 l2 l3 R1 R2 R3
  clear h1 h2 h3 hs
  go_enter Try.func5, Try.ntmps5
  go_wp2_with fail
  refine HS.out.mono ?_
  rintro e' w1 ⟨rfl, f1⟩
  have F := Lib.hid f1
  clear f1
  go_wp2_with fail
  refine (G1.out _ F.out).mono ?_
  rintro e' w1 ⟨rfl, f1⟩
  have F := Lib.hid (F.out.trans1 f1)
  clear f1
  go_wp2_with fail
  refine (G2.out _ F.out).mono ?_
  rintro e' w1 ⟨rfl, f1⟩
  have F := Lib.hid (F.out.trans1 f1)
  clear f1
  go_wp2_with fail
  refine (G3.out _ F.out).mono ?_
  rintro e' w1 ⟨rfl, f1⟩
  have F := Lib.hid (F.out.trans1 f1)
  clear f1
  go_wp2_with fail
  refine (awake5 _).mono ?_
  rintro e' wz ⟨rfl, fz⟩
  go_wp2_with fail
  go_ret
  exact ⟨rfl, F.out.trans1 fz⟩
set_option maxRecDepth 100000 in
theorem antiRules_long1 (a b d : Option Addr) (c e k : Nat) (vs us ts : List SV) (w : World) (h1 : Arg5 w a vs) (h2 : Arg5 w b us) (h3 : Arg5 w d ts) (hs : SmallW [⟨a, c, vs⟩, ⟨b, e, us⟩, ⟨d, k, ts⟩]) (g1 : goodL (vs.map (·.l)) = true) (g2 : goodL (us.map (·.l)) = true) (g3 : goodL (ts.map (·.l)) = true) (q : 6 < vs.length) :
    Calls Try.prog 5 #[.slice a vs.length c, .slice b us.length e, .slice d ts.length k] w fun e' w' => e' = .returned (.bool true) ∧ Frame [] w w' := by
  have SS := small_three a b d c e k vs us ts w h1 h2 h3
  rw [decide_eq_true hs] at SS
  have HS := Lib.hid SS
  clear SS
  obtain ⟨⟨p1, l1⟩, ⟨p2, l2⟩, p3, l3⟩ := small_parts3 hs
  have R1 := Lib.hid (h1.rv l1)
  have R2 := Lib.hid (h2.rv l2)
  have R3 := Lib.hid (h3.rv l3)
  have G1 : Hid (∀ w', Frame [] w w' → Calls Try.prog 14 #[.slice a vs.length c] w' fun e' w'' => e' = .returned (.bool (goodL (vs.map (·.l)))) ∧ Frame [] w' w'') := fun w' f => good_any a c vs w' (R1.out.frame f) (by omega)
  rw [g1] at G1
  have G2 : Hid (∀ w', Frame [] w w' → Calls Try.prog 14 #[.slice b us.length e] w' fun e' w'' => e' = .returned (.bool (goodL (us.map (·.l)))) ∧ Frame [] w' w'') := fun w' f => good_any b e us w' (R2.out.frame f) (by omega)
  rw [g2] at G2
  have G3 : Hid (∀ w', Frame [] w w' → Calls Try.prog 14 #[.slice d ts.length k] w' fun e' w'' => e' = .returned (.bool (goodL (ts.map (·.l)))) ∧ Frame [] w' w'') := fun w' f => good_any d k ts w' (R3.out.frame f) (by omega)
  rw [g3] at G3
  clear g1 g2 g3 l1 l2 l3 R1 R2 R3
  clear h1 h2 h3 hs
  have d1 : decide ((vs.length : Int) > 6) = true := decide_eq_true (by omega)
  go_enter Try.func5, Try.ntmps5
  go_wp2_with fail
  refine HS.out.mono ?_
  rintro e' w1 ⟨rfl, f1⟩
  have F := Lib.hid f1
  clear f1
  go_wp2_with fail
  refine (G1.out _ F.out).mono ?_
  rintro e' w1 ⟨rfl, f1⟩
  have F := Lib.hid (F.out.trans1 f1)
  clear f1
  go_wp2_with fail
  refine (G2.out _ F.out).mono ?_
  rintro e' w1 ⟨rfl, f1⟩
  have F := Lib.hid (F.out.trans1 f1)
  clear f1
  go_wp2_with fail
  refine (G3.out _ F.out).mono ?_
  rintro e' w1 ⟨rfl, f1⟩
  have F := Lib.hid (F.out.trans1 f1)
  clear f1
  go_wp2_with fail
  refine (awake5 _).mono ?_
  rintro e' wz ⟨rfl, fz⟩
  go_wp2_with fail
  go_ret
  exact ⟨rfl, F.out.trans1 fz⟩
set_option maxRecDepth 100000 in
theorem antiRules_long2 (a b d : Option Addr) (c e k : Nat) (vs us ts : List SV) (w : World) (h1 : Arg5 w a vs) (h2 : Arg5 w b us) (h3 : Arg5 w d ts) (hs : SmallW [⟨a, c, vs⟩, ⟨b, e, us⟩, ⟨d, k, ts⟩]) (g1 : goodL (vs.map (·.l)) = true) (g2 : goodL (us.map (·.l)) = true) (g3 : goodL (ts.map (·.l)) = true) (q0 : vs.length ≤ 6) (q : 6 < us.length) :
    Calls Try.prog 5 #[.slice a vs.length c, .slice b us.length e, .slice d ts.length k] w fun e' w' => e' = .returned (.bool true) ∧ Frame [] w w' := by
  have SS := small_three a b d c e k vs us ts w h1 h2 h3
  rw [decide_eq_true hs] at SS
  have HS := Lib.hid SS
  clear SS
  obtain ⟨⟨p1, l1⟩, ⟨p2, l2⟩, p3, l3⟩ := small_parts3 hs
  have R1 := Lib.hid (h1.rv l1)
  have R2 := Lib.hid (h2.rv l2)
  have R3 := Lib.hid (h3.rv l3)
  have G1 : Hid (∀ w', Frame [] w w' → Calls Try.prog 14 #[.slice a vs.length c] w' fun e' w'' => e' = .returned (.bool (goodL (vs.map (·.l)))) ∧ Frame [] w' w'') := fun w' f => good_any a c vs w' (R1.out.frame f) (by omega)
  rw [g1] at G1
  have G2 : Hid (∀ w', Frame [] w w' → Calls Try.prog 14 #[.slice b us.length e] w' fun e' w'' => e' = .returned (.bool (goodL (us.map (·.l)))) ∧ Frame [] w' w'') := fun w' f => good_any b e us w' (R2.out.frame f) (by omega)
  rw [g2] at G2
  have G3 : Hid (∀ w', Frame [] w w' → Calls Try.prog 14 #[.slice d ts.length k] w' fun e' w'' => e' = .returned (.bool (goodL (ts.map (·.l)))) ∧ Frame [] w' w'') := fun w' f => good_any d k ts w' (R3.out.frame f) (by omega)
  rw [g3] at G3
  clear g1 g2 g3 l1 l2 l3 R1 R2 R3
  clear h1 h2 h3 hs
  have d1 : decide ((vs.length : Int) > 6) = false := decide_eq_false (by omega)
  have d2 : decide ((us.length : Int) > 6) = true := decide_eq_true (by omega)
  go_enter Try.func5, Try.ntmps5
  go_wp2_with fail
  refine HS.out.mono ?_
  rintro e' w1 ⟨rfl, f1⟩
  have F := Lib.hid f1
  clear f1
  go_wp2_with fail
  refine (G1.out _ F.out).mono ?_
  rintro e' w1 ⟨rfl, f1⟩
  have F := Lib.hid (F.out.trans1 f1)
  clear f1
  go_wp2_with fail
  refine (G2.out _ F.out).mono ?_
  rintro e' w1 ⟨rfl, f1⟩
  have F := Lib.hid (F.out.trans1 f1)
  clear f1
  go_wp2_with fail
  refine (G3.out _ F.out).mono ?_
  rintro e' w1 ⟨rfl, f1⟩
  have F := Lib.hid (F.out.trans1 f1)
  clear f1
  go_wp2_with fail
  refine (awake5 _).mono ?_
  rintro e' wz ⟨rfl, fz⟩
  go_wp2_with fail
  go_ret
  exact ⟨rfl, F.out.trans1 fz⟩
set_option maxRecDepth 100000 in
theorem antiRules_long3 (a b d : Option Addr) (c e k : Nat) (vs us ts : List SV) (w : World) (h1 : Arg5 w a vs) (h2 : Arg5 w b us) (h3 : Arg5 w d ts) (hs : SmallW [⟨a, c, vs⟩, ⟨b, e, us⟩, ⟨d, k, ts⟩]) (g1 : goodL (vs.map (·.l)) = true) (g2 : goodL (us.map (·.l)) = true) (g3 : goodL (ts.map (·.l)) = true) (q0 : vs.length ≤ 6) (q1 : us.length ≤ 6) (q : 6 < ts.length) :
    Calls Try.prog 5 #[.slice a vs.length c, .slice b us.length e, .slice d ts.length k] w fun e' w' => e' = .returned (.bool true) ∧ Frame [] w w' := by
  have SS := small_three a b d c e k vs us ts w h1 h2 h3
  rw [decide_eq_true hs] at SS
  have HS := Lib.hid SS
  clear SS
  obtain ⟨⟨p1, l1⟩, ⟨p2, l2⟩, p3, l3⟩ := small_parts3 hs
  have R1 := Lib.hid (h1.rv l1)
  have R2 := Lib.hid (h2.rv l2)
  have R3 := Lib.hid (h3.rv l3)
  have G1 : Hid (∀ w', Frame [] w w' → Calls Try.prog 14 #[.slice a vs.length c] w' fun e' w'' => e' = .returned (.bool (goodL (vs.map (·.l)))) ∧ Frame [] w' w'') := fun w' f => good_any a c vs w' (R1.out.frame f) (by omega)
  rw [g1] at G1
  have G2 : Hid (∀ w', Frame [] w w' → Calls Try.prog 14 #[.slice b us.length e] w' fun e' w'' => e' = .returned (.bool (goodL (us.map (·.l)))) ∧ Frame [] w' w'') := fun w' f => good_any b e us w' (R2.out.frame f) (by omega)
  rw [g2] at G2
  have G3 : Hid (∀ w', Frame [] w w' → Calls Try.prog 14 #[.slice d ts.length k] w' fun e' w'' => e' = .returned (.bool (goodL (ts.map (·.l)))) ∧ Frame [] w' w'') := fun w' f => good_any d k ts w' (R3.out.frame f) (by omega)
  rw [g3] at G3
  clear g1 g2 g3 l1 l2 l3 R1 R2 R3
  clear h1 h2 h3 hs
  have d1 : decide ((vs.length : Int) > 6) = false := decide_eq_false (by omega)
  have d2 : decide ((us.length : Int) > 6) = false := decide_eq_false (by omega)
  have d3 : decide ((ts.length : Int) > 6) = true := decide_eq_true (by omega)
  go_enter Try.func5, Try.ntmps5
  go_wp2_with fail
  refine HS.out.mono ?_
  rintro e' w1 ⟨rfl, f1⟩
  have F := Lib.hid f1
  clear f1
  go_wp2_with fail
  refine (G1.out _ F.out).mono ?_
  rintro e' w1 ⟨rfl, f1⟩
  have F := Lib.hid (F.out.trans1 f1)
  clear f1
  go_wp2_with fail
  refine (G2.out _ F.out).mono ?_
  rintro e' w1 ⟨rfl, f1⟩
  have F := Lib.hid (F.out.trans1 f1)
  clear f1
  go_wp2_with fail
  refine (G3.out _ F.out).mono ?_
  rintro e' w1 ⟨rfl, f1⟩
  have F := Lib.hid (F.out.trans1 f1)
  clear f1
  go_wp2_with fail
  refine (awake5 _).mono ?_
  rintro e' wz ⟨rfl, fz⟩
  go_wp2_with fail
  go_ret
  exact ⟨rfl, F.out.trans1 fz⟩
set_option maxHeartbeats 16000000 in
set_option maxRecDepth 100000 in
theorem antiRules_in (a b d : Option Addr) (c e k : Nat) (vs us ts : List SV) (w : World) (h1 : Arg5 w a vs) (h2 : Arg5 w b us) (h3 : Arg5 w d ts) (hs : SmallW [⟨a, c, vs⟩, ⟨b, e, us⟩, ⟨d, k, ts⟩]) (g1 : goodL (vs.map (·.l)) = true) (g2 : goodL (us.map (·.l)) = true) (g3 : goodL (ts.map (·.l)) = true) (q1 : vs.length ≤ 6) (q2 : us.length ≤ 6) (q3 : ts.length ≤ 6) :
    Calls Try.prog 5 #[.slice a vs.length c, .slice b us.length e, .slice d ts.length k] w fun e' w' => e' = .returned (.bool true) ∧ Frame [] w w' := by
  have SS := small_three a b d c e k vs us ts w h1 h2 h3
  rw [decide_eq_true hs] at SS
  have HS := Lib.hid SS
  clear SS
  obtain ⟨⟨p1, l1⟩, ⟨p2, l2⟩, p3, l3⟩ := small_parts3 hs
  have R1 := Lib.hid (h1.rv l1)
  have R2 := Lib.hid (h2.rv l2)
  have R3 := Lib.hid (h3.rv l3)
  have G1 : Hid (∀ w', Frame [] w w' → Calls Try.prog 14 #[.slice a vs.length c] w' fun e' w'' => e' = .returned (.bool (goodL (vs.map (·.l)))) ∧ Frame [] w' w'') := fun w' f => good_any a c vs w' (R1.out.frame f) (by omega)
  rw [g1] at G1
  have G2 : Hid (∀ w', Frame [] w w' → Calls Try.prog 14 #[.slice b us.length e] w' fun e' w'' => e' = .returned (.bool (goodL (us.map (·.l)))) ∧ Frame [] w' w'') := fun w' f => good_any b e us w' (R2.out.frame f) (by omega)
  rw [g2] at G2
  have G3 : Hid (∀ w', Frame [] w w' → Calls Try.prog 14 #[.slice d ts.length k] w' fun e' w'' => e' = .returned (.bool (goodL (ts.map (·.l)))) ∧ Frame [] w' w'') := fun w' f => good_any d k ts w' (R3.out.frame f) (by omega)
  rw [g3] at G3
  have O1 : Hid (∀ w', Frame [] w w' → Calls Try.prog 15 #[.slice a vs.length c] w' (OfEnd (leastR (vs.map (·.l))) vs.length 12 w')) := fun w' f => of_good a c vs w' (R1.out.frame f) p1 l1 g1
  have O2 : Hid (∀ w', Frame [] w w' → Calls Try.prog 15 #[.slice b us.length e] w' (OfEnd (leastR (us.map (·.l))) us.length 12 w')) := fun w' f => of_good b e us w' (R2.out.frame f) p2 l2 g2
  have O3 : Hid (∀ w', Frame [] w w' → Calls Try.prog 15 #[.slice d ts.length k] w' (OfEnd (leastR (ts.map (·.l))) ts.length 12 w')) := fun w' f => of_good d k ts w' (R3.out.frame f) p3 l3 g3
  have d1 : decide ((vs.length : Int) > 6) = false := decide_eq_false (by omega)
  have d2 : decide ((us.length : Int) > 6) = false := decide_eq_false (by omega)
  have d3 : decide ((ts.length : Int) > 6) = false := decide_eq_false (by omega)
  have L1 := Lib.hid (leastR_idem (vs.map (·.l)))
  have L2 := Lib.hid (leastR_idem (us.map (·.l)))
  have L3 := Lib.hid (leastR_idem (ts.map (·.l)))
  generalize leastR (vs.map (·.l)) = f at *
  generalize leastR (us.map (·.l)) = g at *
  generalize leastR (ts.map (·.l)) = h at *
  clear h1 h2 h3 hs g1 g2 g3 l1 l2 l3 R1 R2 R3
  go_enter Try.func5, Try.ntmps5
  go_wp2_with fail
  refine HS.out.mono ?_
  rintro e' w1 ⟨rfl, f1⟩
  have F := Lib.hid f1
  clear f1
  go_wp2_with fail
  refine (G1.out _ F.out).mono ?_
  rintro e' w1 ⟨rfl, f1⟩
  have F := Lib.hid (F.out.trans1 f1)
  clear f1
  go_wp2_with fail
  refine (G2.out _ F.out).mono ?_
  rintro e' w1 ⟨rfl, f1⟩
  have F := Lib.hid (F.out.trans1 f1)
  clear f1
  go_wp2_with fail
  refine (G3.out _ F.out).mono ?_
  rintro e' w1 ⟨rfl, f1⟩
  have F := Lib.hid (F.out.trans1 f1)
  clear f1
  go_wp2_with fail
  refine (O1.out _ F.out).mono ?_
  rintro e' w4 ⟨a4, n4, c4, rfl, v4, f4⟩
  have k4 := f4.trans1 (Frame.alloc [] w4 (.cells #[.slice a4 n4 c4] 30))
  have V4 := Lib.hid ((v4.frame (Frame.alloc [] w4 (.cells #[.slice a4 n4 c4] 30))).mono q1 (Nat.le_refl _))
  have B4 := Lib.hid (Blk.new w4 30 #[.slice a4 n4 c4])
  have F := Lib.hid (F.out.trans1 k4)
  clear v4 f4 k4 O1
  go_wp2_with fail
  generalize w4.heap.size = b4 at *
  generalize w4.alloc (.cells #[.slice a4 n4 c4] 30) = x4 at *
  refine (O2.out _ F.out).mono ?_
  rintro e' w5 ⟨a5, n5, c5, rfl, v5, f5⟩
  have k5 := f5.trans1 (Frame.alloc [] w5 (.cells #[.slice a5 n5 c5] 30))
  have V5 := Lib.hid ((v5.frame (Frame.alloc [] w5 (.cells #[.slice a5 n5 c5] 30))).mono q2 (Nat.le_refl _))
  have B5 := Lib.hid (Blk.new w5 30 #[.slice a5 n5 c5])
  have V4 := Lib.hid (V4.out.frame k5)
  have B4 := Lib.hid (B4.out.frame k5 (by simp))
  have F := Lib.hid (F.out.trans1 k5)
  clear v5 f5 k5 O2
  go_wp2_with fail
  generalize w5.heap.size = b5 at *
  generalize w5.alloc (.cells #[.slice a5 n5 c5] 30) = x5 at *
  refine (O3.out _ F.out).mono ?_
  rintro e' w6 ⟨a6, n6, c6, rfl, v6, f6⟩
  have k6 := f6.trans1 (Frame.alloc [] w6 (.cells #[.slice a6 n6 c6] 30))
  have V6 := Lib.hid ((v6.frame (Frame.alloc [] w6 (.cells #[.slice a6 n6 c6] 30))).mono q3 (Nat.le_refl _))
  have B6 := Lib.hid (Blk.new w6 30 #[.slice a6 n6 c6])
  have V4 := Lib.hid (V4.out.frame k6)
  have B4 := Lib.hid (B4.out.frame k6 (by simp))
  have V5 := Lib.hid (V5.out.frame k6)
  have B5 := Lib.hid (B5.out.frame k6 (by simp))
  have F := Lib.hid (F.out.trans1 k6)
  clear v6 f6 k6 O3
  go_wp2_with fail
  generalize w6.heap.size = b6 at *
  generalize w6.alloc (.cells #[.slice a6 n6 c6] 30) = x6 at *
  have M4 := fam_cellR B4.out
  have M5 := fam_cellR B5.out
  have M6 := fam_cellR B6.out
  refine wp_region_held_drew (S := fun w' => Frame [] x6 w') (by kernel_rfl) (by show Frame [] x6 _; (repeat first | assumption | exact Frame.refl _ _ | refine Frame.trans1 ?_ (Frame.alloc _ _ _) | refine Frame.trans1 ?_ (Frame.drew _ _) | refine Frame.trans1 ?_ (Frame.drewN _ _ _))) ?_
  intro hS
  have V4 := Lib.hid (V4.out.frame (Frame.drew [] x6))
  have V5 := Lib.hid (V5.out.frame (Frame.drew [] x6))
  have V6 := Lib.hid (V6.out.frame (Frame.drew [] x6))
  refine wpAnyH_take (i := 0) (oi := ⟨some 79, _, _, _, _, _⟩) (v := ?_) rfl (by kernel_rfl) (by kernel_rfl) (by kernel_rfl) (fun _ _ _ h => h) (Or.inl ⟨by rfl, ?_⟩) hS ?_
  rotate_left
  · intro w hSw
    go_simp <;> with_reducible rfl
  try simp only [Act.put, List.setIfInBounds_toArray, List.set_cons_zero, List.set_cons_succ]
  refine wpAnyH_take (i := 1) (oi := ⟨some 80, _, _, _, _, _⟩) (v := ?_) rfl (by kernel_rfl) (by kernel_rfl) (by kernel_rfl) (fun _ _ _ h => h) (Or.inl ⟨by rfl, ?_⟩) hS ?_
  rotate_left
  · intro w hSw
    go_simp <;> with_reducible rfl
  try simp only [Act.put, List.setIfInBounds_toArray, List.set_cons_zero, List.set_cons_succ]
  refine wpAnyH_take (i := 2) (oi := ⟨some 81, _, _, _, _, _⟩) (v := ?_) rfl (by kernel_rfl) (by kernel_rfl) (by kernel_rfl) (fun _ _ _ h => h) (Or.inl ⟨by rfl, ?_⟩) hS ?_
  rotate_left
  · intro w hSw
    have hm := M4 w hSw
    go_simp <;> with_reducible rfl
  try simp only [Act.put, List.setIfInBounds_toArray, List.set_cons_zero, List.set_cons_succ]
  refine wpAnyH_take (i := 3) (oi := ⟨some 82, _, _, _, _, _⟩) (v := ?_) rfl (by kernel_rfl) (by kernel_rfl) (by kernel_rfl) (fun _ _ _ h => h) (Or.inl ⟨by rfl, ?_⟩) hS ?_
  rotate_left
  · intro w hSw
    have hm := M5 w hSw
    go_simp <;> with_reducible rfl
  try simp only [Act.put, List.setIfInBounds_toArray, List.set_cons_zero, List.set_cons_succ]
  refine wpAnyH_take (i := 5) (oi := ⟨some 84, _, _, _, _, _⟩) (v := ?_) rfl (by kernel_rfl) (by kernel_rfl) (by kernel_rfl) (fun _ _ _ h => h) (Or.inl ⟨by rfl, ?_⟩) hS ?_
  rotate_left
  · intro w hSw
    go_simp <;> with_reducible rfl
  try simp only [Act.put, List.setIfInBounds_toArray, List.set_cons_zero, List.set_cons_succ]
  refine wpAnyH_take (i := 6) (oi := ⟨some 85, _, _, _, _, _⟩) (v := ?_) rfl (by kernel_rfl) (by kernel_rfl) (by kernel_rfl) (fun _ _ _ h => h) (Or.inl ⟨by rfl, ?_⟩) hS ?_
  rotate_left
  · intro w hSw
    have hm := M5 w hSw
    go_simp <;> with_reducible rfl
  try simp only [Act.put, List.setIfInBounds_toArray, List.set_cons_zero, List.set_cons_succ]
  refine wpAnyH_take (i := 7) (oi := ⟨some 86, _, _, _, _, _⟩) (v := ?_) rfl (by kernel_rfl) (by kernel_rfl) (by kernel_rfl) (fun _ _ _ h => h) (Or.inl ⟨by rfl, ?_⟩) hS ?_
  rotate_left
  · intro w hSw
    have hm := M4 w hSw
    go_simp <;> with_reducible rfl
  try simp only [Act.put, List.setIfInBounds_toArray, List.set_cons_zero, List.set_cons_succ]
  refine wpAnyH_ready (rs := [4]) (by kernel_rfl) (by simp) ?_
  refine AllReadyH.cons (o := ⟨some 83, _, _, _, _, _⟩) rfl (fun K hK => ?_) AllReadyH.nil
  go_simp
  refine (rplus_any V4.out V5.out (by decide)).mono ?_
  rintro e' w83 ⟨a83, n83, c83, rfl, v83, f83⟩
  have V83 := Lib.hid (v83.mono (N' := 12) (M' := 12) (by decide) (by decide))
  clear v83
  have V4 := Lib.hid (V4.out.frame f83)
  have V5 := Lib.hid (V5.out.frame f83)
  have V6 := Lib.hid (V6.out.frame f83)
  have FX := hS.trans1 f83
  clear f83
  refine hK.out _ _ (FX) (fun hS => ?_)
  clear hK K
  try simp only [Act.put, List.setIfInBounds_toArray, List.set_cons_zero, List.set_cons_succ]
  refine wpAnyH_ready (rs := [8]) (by kernel_rfl) (by simp) ?_
  refine AllReadyH.cons (o := ⟨some 87, _, _, _, _, _⟩) rfl (fun K hK => ?_) AllReadyH.nil
  go_simp
  refine (rplus_any V5.out V4.out (by decide)).mono ?_
  rintro e' w87 ⟨a87, n87, c87, rfl, v87, f87⟩
  have V87 := Lib.hid (v87.mono (N' := 12) (M' := 12) (by decide) (by decide))
  clear v87
  have V4 := Lib.hid (V4.out.frame f87)
  have V5 := Lib.hid (V5.out.frame f87)
  have V6 := Lib.hid (V6.out.frame f87)
  have V83 := Lib.hid (V83.out.frame f87)
  have FX := hS.trans1 f87
  clear f87
  refine hK.out _ _ (FX) (fun hS => ?_)
  clear hK K
  try simp only [Act.put, List.setIfInBounds_toArray, List.set_cons_zero, List.set_cons_succ]
  refine wpAnyH_ready (rs := [9]) (by kernel_rfl) (by simp) ?_
  refine AllReadyH.cons (o := ⟨some 88, _, _, _, _, _⟩) rfl (fun K hK => ?_) AllReadyH.nil
  go_simp
  refine (rsame5_any V83.out V87.out (by decide) (by decide) law_plus_comm).mono ?_
  rintro e' w88 ⟨rfl, f88⟩
  have V4 := Lib.hid (V4.out.frame f88)
  have V5 := Lib.hid (V5.out.frame f88)
  have V6 := Lib.hid (V6.out.frame f88)
  have FX := hS.trans1 f88
  clear f88
  refine hK.out _ _ (FX) (fun hS => ?_)
  clear hK K
  try simp only [Act.put, List.setIfInBounds_toArray, List.set_cons_zero, List.set_cons_succ]
  refine wpAnyH_take (i := 10) (oi := ⟨some 89, _, _, _, _, _⟩) (v := ?_) rfl (by kernel_rfl) (by kernel_rfl) (by kernel_rfl) (fun _ _ _ h => h) (Or.inl ⟨by rfl, ?_⟩) hS ?_
  rotate_left
  · intro w hSw
    go_simp <;> with_reducible rfl
  try simp only [Act.put, List.setIfInBounds_toArray, List.set_cons_zero, List.set_cons_succ]
  as_aux_lemma =>
    refine wpAnyH_take (i := 11) (oi := ⟨some 90, _, _, _, _, _⟩) (v := ?_) rfl (by kernel_rfl) (by kernel_rfl) (by kernel_rfl) (fun _ _ _ h => h) (Or.inl ⟨by rfl, ?_⟩) hS ?_
    rotate_left
    · intro w hSw
      go_simp <;> with_reducible rfl
    try simp only [Act.put, List.setIfInBounds_toArray, List.set_cons_zero, List.set_cons_succ]
    refine wpAnyH_take (i := 12) (oi := ⟨some 91, _, _, _, _, _⟩) (v := ?_) rfl (by kernel_rfl) (by kernel_rfl) (by kernel_rfl) (fun _ _ _ h => h) (Or.inl ⟨by rfl, ?_⟩) hS ?_
    rotate_left
    · intro w hSw
      go_simp <;> with_reducible rfl
    try simp only [Act.put, List.setIfInBounds_toArray, List.set_cons_zero, List.set_cons_succ]
    refine wpAnyH_take (i := 13) (oi := ⟨some 92, _, _, _, _, _⟩) (v := ?_) rfl (by kernel_rfl) (by kernel_rfl) (by kernel_rfl) (fun _ _ _ h => h) (Or.inl ⟨by rfl, ?_⟩) hS ?_
    rotate_left
    · intro w hSw
      have hm := M4 w hSw
      go_simp <;> with_reducible rfl
    try simp only [Act.put, List.setIfInBounds_toArray, List.set_cons_zero, List.set_cons_succ]
    refine wpAnyH_take (i := 14) (oi := ⟨some 93, _, _, _, _, _⟩) (v := ?_) rfl (by kernel_rfl) (by kernel_rfl) (by kernel_rfl) (fun _ _ _ h => h) (Or.inl ⟨by rfl, ?_⟩) hS ?_
    rotate_left
    · intro w hSw
      have hm := M5 w hSw
      go_simp <;> with_reducible rfl
    try simp only [Act.put, List.setIfInBounds_toArray, List.set_cons_zero, List.set_cons_succ]
    refine wpAnyH_take (i := 16) (oi := ⟨some 95, _, _, _, _, _⟩) (v := ?_) rfl (by kernel_rfl) (by kernel_rfl) (by kernel_rfl) (fun _ _ _ h => h) (Or.inl ⟨by rfl, ?_⟩) hS ?_
    rotate_left
    · intro w hSw
      go_simp <;> with_reducible rfl
    try simp only [Act.put, List.setIfInBounds_toArray, List.set_cons_zero, List.set_cons_succ]
    refine wpAnyH_take (i := 17) (oi := ⟨some 96, _, _, _, _, _⟩) (v := ?_) rfl (by kernel_rfl) (by kernel_rfl) (by kernel_rfl) (fun _ _ _ h => h) (Or.inl ⟨by rfl, ?_⟩) hS ?_
    rotate_left
    · intro w hSw
      have hm := M5 w hSw
      go_simp <;> with_reducible rfl
    try simp only [Act.put, List.setIfInBounds_toArray, List.set_cons_zero, List.set_cons_succ]
    refine wpAnyH_take (i := 18) (oi := ⟨some 97, _, _, _, _, _⟩) (v := ?_) rfl (by kernel_rfl) (by kernel_rfl) (by kernel_rfl) (fun _ _ _ h => h) (Or.inl ⟨by rfl, ?_⟩) hS ?_
    rotate_left
    · intro w hSw
      have hm := M4 w hSw
      go_simp <;> with_reducible rfl
    try simp only [Act.put, List.setIfInBounds_toArray, List.set_cons_zero, List.set_cons_succ]
    refine wpAnyH_ready (rs := [15]) (by kernel_rfl) (by simp) ?_
    refine AllReadyH.cons (o := ⟨some 94, _, _, _, _, _⟩) rfl (fun K hK => ?_) AllReadyH.nil
    go_simp
    refine (rtimes_any V4.out V5.out (by decide) (by decide) (by decide) (by decide) (by decide)).mono ?_
    rintro e' w94 ⟨a94, n94, c94, rfl, v94, f94⟩
    have V94 := Lib.hid (v94.mono (N' := 36) (M' := 24) (by decide) (by decide))
    clear v94
    have V4 := Lib.hid (V4.out.frame f94)
    have V5 := Lib.hid (V5.out.frame f94)
    have V6 := Lib.hid (V6.out.frame f94)
    have FX := hS.trans1 f94
    clear f94
    refine hK.out _ _ (FX) (fun hS => ?_)
    clear hK K
    try simp only [Act.put, List.setIfInBounds_toArray, List.set_cons_zero, List.set_cons_succ]
    refine wpAnyH_ready (rs := [19]) (by kernel_rfl) (by simp) ?_
    refine AllReadyH.cons (o := ⟨some 98, _, _, _, _, _⟩) rfl (fun K hK => ?_) AllReadyH.nil
    go_simp
    refine (rtimes_any V5.out V4.out (by decide) (by decide) (by decide) (by decide) (by decide)).mono ?_
    rintro e' w98 ⟨a98, n98, c98, rfl, v98, f98⟩
    have V98 := Lib.hid (v98.mono (N' := 36) (M' := 24) (by decide) (by decide))
    clear v98
    have V4 := Lib.hid (V4.out.frame f98)
    have V5 := Lib.hid (V5.out.frame f98)
    have V6 := Lib.hid (V6.out.frame f98)
    have V94 := Lib.hid (V94.out.frame f98)
    have FX := hS.trans1 f98
    clear f98
    refine hK.out _ _ (FX) (fun hS => ?_)
    clear hK K
    try simp only [Act.put, List.setIfInBounds_toArray, List.set_cons_zero, List.set_cons_succ]
    refine wpAnyH_ready (rs := [20]) (by kernel_rfl) (by simp) ?_
    refine AllReadyH.cons (o := ⟨some 99, _, _, _, _, _⟩) rfl (fun K hK => ?_) AllReadyH.nil
    go_simp
    refine (rsame5_any V94.out V98.out (by decide) (by decide) law_times_comm).mono ?_
    rintro e' w99 ⟨rfl, f99⟩
    have V4 := Lib.hid (V4.out.frame f99)
    have V5 := Lib.hid (V5.out.frame f99)
    have V6 := Lib.hid (V6.out.frame f99)
    have FX := hS.trans1 f99
    clear f99
    refine hK.out _ _ (FX) (fun hS => ?_)
    clear hK K
    try simp only [Act.put, List.setIfInBounds_toArray, List.set_cons_zero, List.set_cons_succ]
    refine wpAnyH_take (i := 21) (oi := ⟨some 100, _, _, _, _, _⟩) (v := ?_) rfl (by kernel_rfl) (by kernel_rfl) (by kernel_rfl) (fun _ _ _ h => h) (Or.inl ⟨by rfl, ?_⟩) hS ?_
    rotate_left
    · intro w hSw
      go_simp <;> with_reducible rfl
    try simp only [Act.put, List.setIfInBounds_toArray, List.set_cons_zero, List.set_cons_succ]
    refine wpAnyH_take (i := 22) (oi := ⟨some 101, _, _, _, _, _⟩) (v := ?_) rfl (by kernel_rfl) (by kernel_rfl) (by kernel_rfl) (fun _ _ _ h => h) (Or.inl ⟨by rfl, ?_⟩) hS ?_
    rotate_left
    · intro w hSw
      go_simp <;> with_reducible rfl
    try simp only [Act.put, List.setIfInBounds_toArray, List.set_cons_zero, List.set_cons_succ]
    as_aux_lemma =>
      refine wpAnyH_take (i := 23) (oi := ⟨some 102, _, _, _, _, _⟩) (v := ?_) rfl (by kernel_rfl) (by kernel_rfl) (by kernel_rfl) (fun _ _ _ h => h) (Or.inl ⟨by rfl, ?_⟩) hS ?_
      rotate_left
      · intro w hSw
        go_simp <;> with_reducible rfl
      try simp only [Act.put, List.setIfInBounds_toArray, List.set_cons_zero, List.set_cons_succ]
      refine wpAnyH_take (i := 24) (oi := ⟨some 103, _, _, _, _, _⟩) (v := ?_) rfl (by kernel_rfl) (by kernel_rfl) (by kernel_rfl) (fun _ _ _ h => h) (Or.inl ⟨by rfl, ?_⟩) hS ?_
      rotate_left
      · intro w hSw
        go_simp <;> with_reducible rfl
      try simp only [Act.put, List.setIfInBounds_toArray, List.set_cons_zero, List.set_cons_succ]
      refine wpAnyH_take (i := 25) (oi := ⟨some 104, _, _, _, _, _⟩) (v := ?_) rfl (by kernel_rfl) (by kernel_rfl) (by kernel_rfl) (fun _ _ _ h => h) (Or.inl ⟨by rfl, ?_⟩) hS ?_
      rotate_left
      · intro w hSw
        have hm := M4 w hSw
        go_simp <;> with_reducible rfl
      try simp only [Act.put, List.setIfInBounds_toArray, List.set_cons_zero, List.set_cons_succ]
      refine wpAnyH_take (i := 26) (oi := ⟨some 105, _, _, _, _, _⟩) (v := ?_) rfl (by kernel_rfl) (by kernel_rfl) (by kernel_rfl) (fun _ _ _ h => h) (Or.inl ⟨by rfl, ?_⟩) hS ?_
      rotate_left
      · intro w hSw
        go_simp <;> with_reducible rfl
      try simp only [Act.put, List.setIfInBounds_toArray, List.set_cons_zero, List.set_cons_succ]
      refine wpAnyH_take (i := 27) (oi := ⟨some 106, _, _, _, _, _⟩) (v := ?_) rfl (by kernel_rfl) (by kernel_rfl) (by kernel_rfl) (fun _ _ _ h => h) (Or.inl ⟨by rfl, ?_⟩) hS ?_
      rotate_left
      · intro w hSw
        have hm := M5 w hSw
        go_simp <;> with_reducible rfl
      try simp only [Act.put, List.setIfInBounds_toArray, List.set_cons_zero, List.set_cons_succ]
      refine wpAnyH_take (i := 28) (oi := ⟨some 107, _, _, _, _, _⟩) (v := ?_) rfl (by kernel_rfl) (by kernel_rfl) (by kernel_rfl) (fun _ _ _ h => h) (Or.inl ⟨by rfl, ?_⟩) hS ?_
      rotate_left
      · intro w hSw
        have hm := M6 w hSw
        go_simp <;> with_reducible rfl
      try simp only [Act.put, List.setIfInBounds_toArray, List.set_cons_zero, List.set_cons_succ]
      refine wpAnyH_take (i := 31) (oi := ⟨some 110, _, _, _, _, _⟩) (v := ?_) rfl (by kernel_rfl) (by kernel_rfl) (by kernel_rfl) (fun _ _ _ h => h) (Or.inl ⟨by rfl, ?_⟩) hS ?_
      rotate_left
      · intro w hSw
        go_simp <;> with_reducible rfl
      try simp only [Act.put, List.setIfInBounds_toArray, List.set_cons_zero, List.set_cons_succ]
      refine wpAnyH_take (i := 32) (oi := ⟨some 111, _, _, _, _, _⟩) (v := ?_) rfl (by kernel_rfl) (by kernel_rfl) (by kernel_rfl) (fun _ _ _ h => h) (Or.inl ⟨by rfl, ?_⟩) hS ?_
      rotate_left
      · intro w hSw
        go_simp <;> with_reducible rfl
      try simp only [Act.put, List.setIfInBounds_toArray, List.set_cons_zero, List.set_cons_succ]
      refine wpAnyH_take (i := 33) (oi := ⟨some 112, _, _, _, _, _⟩) (v := ?_) rfl (by kernel_rfl) (by kernel_rfl) (by kernel_rfl) (fun _ _ _ h => h) (Or.inl ⟨by rfl, ?_⟩) hS ?_
      rotate_left
      · intro w hSw
        have hm := M4 w hSw
        go_simp <;> with_reducible rfl
      try simp only [Act.put, List.setIfInBounds_toArray, List.set_cons_zero, List.set_cons_succ]
      refine wpAnyH_take (i := 34) (oi := ⟨some 113, _, _, _, _, _⟩) (v := ?_) rfl (by kernel_rfl) (by kernel_rfl) (by kernel_rfl) (fun _ _ _ h => h) (Or.inl ⟨by rfl, ?_⟩) hS ?_
      rotate_left
      · intro w hSw
        have hm := M5 w hSw
        go_simp <;> with_reducible rfl
      try simp only [Act.put, List.setIfInBounds_toArray, List.set_cons_zero, List.set_cons_succ]
      refine wpAnyH_take (i := 36) (oi := ⟨some 115, _, _, _, _, _⟩) (v := ?_) rfl (by kernel_rfl) (by kernel_rfl) (by kernel_rfl) (fun _ _ _ h => h) (Or.inl ⟨by rfl, ?_⟩) hS ?_
      rotate_left
      · intro w hSw
        have hm := M6 w hSw
        go_simp <;> with_reducible rfl
      try simp only [Act.put, List.setIfInBounds_toArray, List.set_cons_zero, List.set_cons_succ]
      refine wpAnyH_ready (rs := [29]) (by kernel_rfl) (by simp) ?_
      refine AllReadyH.cons (o := ⟨some 108, _, _, _, _, _⟩) rfl (fun K hK => ?_) AllReadyH.nil
      go_simp
      refine (rplus_any V5.out V6.out (by decide)).mono ?_
      rintro e' w108 ⟨a108, n108, c108, rfl, v108, f108⟩
      have V108 := Lib.hid (v108.mono (N' := 12) (M' := 12) (by decide) (by decide))
      clear v108
      have V4 := Lib.hid (V4.out.frame f108)
      have V5 := Lib.hid (V5.out.frame f108)
      have V6 := Lib.hid (V6.out.frame f108)
      have FX := hS.trans1 f108
      clear f108
      refine hK.out _ _ (FX) (fun hS => ?_)
      clear hK K
      try simp only [Act.put, List.setIfInBounds_toArray, List.set_cons_zero, List.set_cons_succ]
      as_aux_lemma =>
        refine wpAnyH_ready (rs := [30]) (by kernel_rfl) (by simp) ?_
        refine AllReadyH.cons (o := ⟨some 109, _, _, _, _, _⟩) rfl (fun K hK => ?_) AllReadyH.nil
        go_simp
        refine (rplus_any V4.out V108.out (by decide)).mono ?_
        rintro e' w109 ⟨a109, n109, c109, rfl, v109, f109⟩
        have V109 := Lib.hid (v109.mono (N' := 18) (M' := 12) (by decide) (by decide))
        clear v109
        have V4 := Lib.hid (V4.out.frame f109)
        have V5 := Lib.hid (V5.out.frame f109)
        have V6 := Lib.hid (V6.out.frame f109)
        have FX := hS.trans1 f109
        clear f109
        refine hK.out _ _ (FX) (fun hS => ?_)
        clear hK K
        try simp only [Act.put, List.setIfInBounds_toArray, List.set_cons_zero, List.set_cons_succ]
        refine wpAnyH_ready (rs := [35]) (by kernel_rfl) (by simp) ?_
        refine AllReadyH.cons (o := ⟨some 114, _, _, _, _, _⟩) rfl (fun K hK => ?_) AllReadyH.nil
        go_simp
        refine (rplus_any V4.out V5.out (by decide)).mono ?_
        rintro e' w114 ⟨a114, n114, c114, rfl, v114, f114⟩
        have V114 := Lib.hid (v114.mono (N' := 12) (M' := 12) (by decide) (by decide))
        clear v114
        have V4 := Lib.hid (V4.out.frame f114)
        have V5 := Lib.hid (V5.out.frame f114)
        have V6 := Lib.hid (V6.out.frame f114)
        have V109 := Lib.hid (V109.out.frame f114)
        have FX := hS.trans1 f114
        clear f114
        refine hK.out _ _ (FX) (fun hS => ?_)
        clear hK K
        try simp only [Act.put, List.setIfInBounds_toArray, List.set_cons_zero, List.set_cons_succ]
        refine wpAnyH_ready (rs := [37]) (by kernel_rfl) (by simp) ?_
        refine AllReadyH.cons (o := ⟨some 116, _, _, _, _, _⟩) rfl (fun K hK => ?_) AllReadyH.nil
        go_simp
        refine (rplus_any V114.out V6.out (by decide)).mono ?_
        rintro e' w116 ⟨a116, n116, c116, rfl, v116, f116⟩
        have V116 := Lib.hid (v116.mono (N' := 18) (M' := 12) (by decide) (by decide))
        clear v116
        have V4 := Lib.hid (V4.out.frame f116)
        have V5 := Lib.hid (V5.out.frame f116)
        have V6 := Lib.hid (V6.out.frame f116)
        have V109 := Lib.hid (V109.out.frame f116)
        have FX := hS.trans1 f116
        clear f116
        refine hK.out _ _ (FX) (fun hS => ?_)
        clear hK K
        try simp only [Act.put, List.setIfInBounds_toArray, List.set_cons_zero, List.set_cons_succ]
        refine wpAnyH_ready (rs := [38]) (by kernel_rfl) (by simp) ?_
        refine AllReadyH.cons (o := ⟨some 117, _, _, _, _, _⟩) rfl (fun K hK => ?_) AllReadyH.nil
        go_simp
        refine (rsame5_any V109.out V116.out (by decide) (by decide) law_plus_assoc).mono ?_
        rintro e' w117 ⟨rfl, f117⟩
        have V4 := Lib.hid (V4.out.frame f117)
        have V5 := Lib.hid (V5.out.frame f117)
        have V6 := Lib.hid (V6.out.frame f117)
        have FX := hS.trans1 f117
        clear f117
        refine hK.out _ _ (FX) (fun hS => ?_)
        clear hK K
        try simp only [Act.put, List.setIfInBounds_toArray, List.set_cons_zero, List.set_cons_succ]
        refine wpAnyH_take (i := 39) (oi := ⟨some 118, _, _, _, _, _⟩) (v := ?_) rfl (by kernel_rfl) (by kernel_rfl) (by kernel_rfl) (fun _ _ _ h => h) (Or.inl ⟨by rfl, ?_⟩) hS ?_
        rotate_left
        · intro w hSw
          go_simp <;> with_reducible rfl
        try simp only [Act.put, List.setIfInBounds_toArray, List.set_cons_zero, List.set_cons_succ]
        refine wpAnyH_take (i := 40) (oi := ⟨some 119, _, _, _, _, _⟩) (v := ?_) rfl (by kernel_rfl) (by kernel_rfl) (by kernel_rfl) (fun _ _ _ h => h) (Or.inl ⟨by rfl, ?_⟩) hS ?_
        rotate_left
        · intro w hSw
          go_simp <;> with_reducible rfl
        try simp only [Act.put, List.setIfInBounds_toArray, List.set_cons_zero, List.set_cons_succ]
        refine wpAnyH_take (i := 41) (oi := ⟨some 120, _, _, _, _, _⟩) (v := ?_) rfl (by kernel_rfl) (by kernel_rfl) (by kernel_rfl) (fun _ _ _ h => h) (Or.inl ⟨by rfl, ?_⟩) hS ?_
        rotate_left
        · intro w hSw
          go_simp <;> with_reducible rfl
        try simp only [Act.put, List.setIfInBounds_toArray, List.set_cons_zero, List.set_cons_succ]
        refine wpAnyH_take (i := 42) (oi := ⟨some 121, _, _, _, _, _⟩) (v := ?_) rfl (by kernel_rfl) (by kernel_rfl) (by kernel_rfl) (fun _ _ _ h => h) (Or.inl ⟨by rfl, ?_⟩) hS ?_
        rotate_left
        · intro w hSw
          go_simp <;> with_reducible rfl
        try simp only [Act.put, List.setIfInBounds_toArray, List.set_cons_zero, List.set_cons_succ]
        refine wpAnyH_take (i := 43) (oi := ⟨some 122, _, _, _, _, _⟩) (v := ?_) rfl (by kernel_rfl) (by kernel_rfl) (by kernel_rfl) (fun _ _ _ h => h) (Or.inl ⟨by rfl, ?_⟩) hS ?_
        rotate_left
        · intro w hSw
          have hm := M4 w hSw
          go_simp <;> with_reducible rfl
        try simp only [Act.put, List.setIfInBounds_toArray, List.set_cons_zero, List.set_cons_succ]
        refine wpAnyH_take (i := 44) (oi := ⟨some 123, _, _, _, _, _⟩) (v := ?_) rfl (by kernel_rfl) (by kernel_rfl) (by kernel_rfl) (fun _ _ _ h => h) (Or.inl ⟨by rfl, ?_⟩) hS ?_
        rotate_left
        · intro w hSw
          go_simp <;> with_reducible rfl
        try simp only [Act.put, List.setIfInBounds_toArray, List.set_cons_zero, List.set_cons_succ]
        refine wpAnyH_take (i := 45) (oi := ⟨some 124, _, _, _, _, _⟩) (v := ?_) rfl (by kernel_rfl) (by kernel_rfl) (by kernel_rfl) (fun _ _ _ h => h) (Or.inl ⟨by rfl, ?_⟩) hS ?_
        rotate_left
        · intro w hSw
          have hm := M5 w hSw
          go_simp <;> with_reducible rfl
        try simp only [Act.put, List.setIfInBounds_toArray, List.set_cons_zero, List.set_cons_succ]
        refine wpAnyH_take (i := 46) (oi := ⟨some 125, _, _, _, _, _⟩) (v := ?_) rfl (by kernel_rfl) (by kernel_rfl) (by kernel_rfl) (fun _ _ _ h => h) (Or.inl ⟨by rfl, ?_⟩) hS ?_
        rotate_left
        · intro w hSw
          have hm := M6 w hSw
          go_simp <;> with_reducible rfl
        try simp only [Act.put, List.setIfInBounds_toArray, List.set_cons_zero, List.set_cons_succ]
        as_aux_lemma =>
          refine wpAnyH_take (i := 49) (oi := ⟨some 128, _, _, _, _, _⟩) (v := ?_) rfl (by kernel_rfl) (by kernel_rfl) (by kernel_rfl) (fun _ _ _ h => h) (Or.inl ⟨by rfl, ?_⟩) hS ?_
          rotate_left
          · intro w hSw
            go_simp <;> with_reducible rfl
          try simp only [Act.put, List.setIfInBounds_toArray, List.set_cons_zero, List.set_cons_succ]
          refine wpAnyH_take (i := 50) (oi := ⟨some 129, _, _, _, _, _⟩) (v := ?_) rfl (by kernel_rfl) (by kernel_rfl) (by kernel_rfl) (fun _ _ _ h => h) (Or.inl ⟨by rfl, ?_⟩) hS ?_
          rotate_left
          · intro w hSw
            go_simp <;> with_reducible rfl
          try simp only [Act.put, List.setIfInBounds_toArray, List.set_cons_zero, List.set_cons_succ]
          refine wpAnyH_take (i := 51) (oi := ⟨some 130, _, _, _, _, _⟩) (v := ?_) rfl (by kernel_rfl) (by kernel_rfl) (by kernel_rfl) (fun _ _ _ h => h) (Or.inl ⟨by rfl, ?_⟩) hS ?_
          rotate_left
          · intro w hSw
            have hm := M4 w hSw
            go_simp <;> with_reducible rfl
          try simp only [Act.put, List.setIfInBounds_toArray, List.set_cons_zero, List.set_cons_succ]
          refine wpAnyH_take (i := 52) (oi := ⟨some 131, _, _, _, _, _⟩) (v := ?_) rfl (by kernel_rfl) (by kernel_rfl) (by kernel_rfl) (fun _ _ _ h => h) (Or.inl ⟨by rfl, ?_⟩) hS ?_
          rotate_left
          · intro w hSw
            have hm := M5 w hSw
            go_simp <;> with_reducible rfl
          try simp only [Act.put, List.setIfInBounds_toArray, List.set_cons_zero, List.set_cons_succ]
          refine wpAnyH_take (i := 54) (oi := ⟨some 133, _, _, _, _, _⟩) (v := ?_) rfl (by kernel_rfl) (by kernel_rfl) (by kernel_rfl) (fun _ _ _ h => h) (Or.inl ⟨by rfl, ?_⟩) hS ?_
          rotate_left
          · intro w hSw
            have hm := M6 w hSw
            go_simp <;> with_reducible rfl
          try simp only [Act.put, List.setIfInBounds_toArray, List.set_cons_zero, List.set_cons_succ]
          refine wpAnyH_ready (rs := [47]) (by kernel_rfl) (by simp) ?_
          refine AllReadyH.cons (o := ⟨some 126, _, _, _, _, _⟩) rfl (fun K hK => ?_) AllReadyH.nil
          go_simp
          refine (rtimes_any V5.out V6.out (by decide) (by decide) (by decide) (by decide) (by decide)).mono ?_
          rintro e' w126 ⟨a126, n126, c126, rfl, v126, f126⟩
          have V126 := Lib.hid (v126.mono (N' := 36) (M' := 24) (by decide) (by decide))
          clear v126
          have V4 := Lib.hid (V4.out.frame f126)
          have V5 := Lib.hid (V5.out.frame f126)
          have V6 := Lib.hid (V6.out.frame f126)
          have FX := hS.trans1 f126
          clear f126
          refine hK.out _ _ (FX) (fun hS => ?_)
          clear hK K
          try simp only [Act.put, List.setIfInBounds_toArray, List.set_cons_zero, List.set_cons_succ]
          refine wpAnyH_ready (rs := [48]) (by kernel_rfl) (by simp) ?_
          refine AllReadyH.cons (o := ⟨some 127, _, _, _, _, _⟩) rfl (fun K hK => ?_) AllReadyH.nil
          go_simp
          refine (rtimes_any V4.out V126.out (by decide) (by decide) (by decide) (by decide) (by decide)).mono ?_
          rintro e' w127 ⟨a127, n127, c127, rfl, v127, f127⟩
          have V127 := Lib.hid (v127.mono (N' := 216) (M' := 36) (by decide) (by decide))
          clear v127
          have V4 := Lib.hid (V4.out.frame f127)
          have V5 := Lib.hid (V5.out.frame f127)
          have V6 := Lib.hid (V6.out.frame f127)
          have FX := hS.trans1 f127
          clear f127
          refine hK.out _ _ (FX) (fun hS => ?_)
          clear hK K
          try simp only [Act.put, List.setIfInBounds_toArray, List.set_cons_zero, List.set_cons_succ]
          refine wpAnyH_ready (rs := [53]) (by kernel_rfl) (by simp) ?_
          refine AllReadyH.cons (o := ⟨some 132, _, _, _, _, _⟩) rfl (fun K hK => ?_) AllReadyH.nil
          go_simp
          refine (rtimes_any V4.out V5.out (by decide) (by decide) (by decide) (by decide) (by decide)).mono ?_
          rintro e' w132 ⟨a132, n132, c132, rfl, v132, f132⟩
          have V132 := Lib.hid (v132.mono (N' := 36) (M' := 24) (by decide) (by decide))
          clear v132
          have V4 := Lib.hid (V4.out.frame f132)
          have V5 := Lib.hid (V5.out.frame f132)
          have V6 := Lib.hid (V6.out.frame f132)
          have V127 := Lib.hid (V127.out.frame f132)
          have FX := hS.trans1 f132
          clear f132
          refine hK.out _ _ (FX) (fun hS => ?_)
          clear hK K
          try simp only [Act.put, List.setIfInBounds_toArray, List.set_cons_zero, List.set_cons_succ]
          refine wpAnyH_ready (rs := [55]) (by kernel_rfl) (by simp) ?_
          refine AllReadyH.cons (o := ⟨some 134, _, _, _, _, _⟩) rfl (fun K hK => ?_) AllReadyH.nil
          go_simp
          refine (rtimes_any V132.out V6.out (by decide) (by decide) (by decide) (by decide) (by decide)).mono ?_
          rintro e' w134 ⟨a134, n134, c134, rfl, v134, f134⟩
          have V134 := Lib.hid (v134.mono (N' := 216) (M' := 36) (by decide) (by decide))
          clear v134
          have V4 := Lib.hid (V4.out.frame f134)
          have V5 := Lib.hid (V5.out.frame f134)
          have V6 := Lib.hid (V6.out.frame f134)
          have V127 := Lib.hid (V127.out.frame f134)
          have FX := hS.trans1 f134
          clear f134
          refine hK.out _ _ (FX) (fun hS => ?_)
          clear hK K
          try simp only [Act.put, List.setIfInBounds_toArray, List.set_cons_zero, List.set_cons_succ]
          refine wpAnyH_ready (rs := [56]) (by kernel_rfl) (by simp) ?_
          refine AllReadyH.cons (o := ⟨some 135, _, _, _, _, _⟩) rfl (fun K hK => ?_) AllReadyH.nil
          go_simp
          refine (rsame5_any V127.out V134.out (by decide) (by decide) law_times_assoc).mono ?_
          rintro e' w135 ⟨rfl, f135⟩
          have V4 := Lib.hid (V4.out.frame f135)
          have V5 := Lib.hid (V5.out.frame f135)
          have V6 := Lib.hid (V6.out.frame f135)
          have FX := hS.trans1 f135
          clear f135
          refine hK.out _ _ (FX) (fun hS => ?_)
          clear hK K
          try simp only [Act.put, List.setIfInBounds_toArray, List.set_cons_zero, List.set_cons_succ]
          refine wpAnyH_take (i := 57) (oi := ⟨some 136, _, _, _, _, _⟩) (v := ?_) rfl (by kernel_rfl) (by kernel_rfl) (by kernel_rfl) (fun _ _ _ h => h) (Or.inl ⟨by rfl, ?_⟩) hS ?_
          rotate_left
          · intro w hSw
            go_simp <;> with_reducible rfl
          try simp only [Act.put, List.setIfInBounds_toArray, List.set_cons_zero, List.set_cons_succ]
          refine wpAnyH_take (i := 58) (oi := ⟨some 137, _, _, _, _, _⟩) (v := ?_) rfl (by kernel_rfl) (by kernel_rfl) (by kernel_rfl) (fun _ _ _ h => h) (Or.inl ⟨by rfl, ?_⟩) hS ?_
          rotate_left
          · intro w hSw
            go_simp <;> with_reducible rfl
          try simp only [Act.put, List.setIfInBounds_toArray, List.set_cons_zero, List.set_cons_succ]
          as_aux_lemma =>
            refine wpAnyH_take (i := 59) (oi := ⟨some 138, _, _, _, _, _⟩) (v := ?_) rfl (by kernel_rfl) (by kernel_rfl) (by kernel_rfl) (fun _ _ _ h => h) (Or.inl ⟨by rfl, ?_⟩) hS ?_
            rotate_left
            · intro w hSw
              go_simp <;> with_reducible rfl
            try simp only [Act.put, List.setIfInBounds_toArray, List.set_cons_zero, List.set_cons_succ]
            refine wpAnyH_take (i := 60) (oi := ⟨some 139, _, _, _, _, _⟩) (v := ?_) rfl (by kernel_rfl) (by kernel_rfl) (by kernel_rfl) (fun _ _ _ h => h) (Or.inl ⟨by rfl, ?_⟩) hS ?_
            rotate_left
            · intro w hSw
              go_simp <;> with_reducible rfl
            try simp only [Act.put, List.setIfInBounds_toArray, List.set_cons_zero, List.set_cons_succ]
            refine wpAnyH_take (i := 61) (oi := ⟨some 140, _, _, _, _, _⟩) (v := ?_) rfl (by kernel_rfl) (by kernel_rfl) (by kernel_rfl) (fun _ _ _ h => h) (Or.inl ⟨by rfl, ?_⟩) hS ?_
            rotate_left
            · intro w hSw
              have hm := M4 w hSw
              go_simp <;> with_reducible rfl
            try simp only [Act.put, List.setIfInBounds_toArray, List.set_cons_zero, List.set_cons_succ]
            refine wpAnyH_take (i := 62) (oi := ⟨some 141, _, _, _, _, _⟩) (v := ?_) rfl (by kernel_rfl) (by kernel_rfl) (by kernel_rfl) (fun _ _ _ h => h) (Or.inl ⟨by rfl, ?_⟩) hS ?_
            rotate_left
            · intro w hSw
              go_simp <;> with_reducible rfl
            try simp only [Act.put, List.setIfInBounds_toArray, List.set_cons_zero, List.set_cons_succ]
            refine wpAnyH_take (i := 63) (oi := ⟨some 142, _, _, _, _, _⟩) (v := ?_) rfl (by kernel_rfl) (by kernel_rfl) (by kernel_rfl) (fun _ _ _ h => h) (Or.inl ⟨by rfl, ?_⟩) hS ?_
            rotate_left
            · intro w hSw
              have hm := M5 w hSw
              go_simp <;> with_reducible rfl
            try simp only [Act.put, List.setIfInBounds_toArray, List.set_cons_zero, List.set_cons_succ]
            refine wpAnyH_take (i := 64) (oi := ⟨some 143, _, _, _, _, _⟩) (v := ?_) rfl (by kernel_rfl) (by kernel_rfl) (by kernel_rfl) (fun _ _ _ h => h) (Or.inl ⟨by rfl, ?_⟩) hS ?_
            rotate_left
            · intro w hSw
              have hm := M6 w hSw
              go_simp <;> with_reducible rfl
            try simp only [Act.put, List.setIfInBounds_toArray, List.set_cons_zero, List.set_cons_succ]
            refine wpAnyH_take (i := 67) (oi := ⟨some 146, _, _, _, _, _⟩) (v := ?_) rfl (by kernel_rfl) (by kernel_rfl) (by kernel_rfl) (fun _ _ _ h => h) (Or.inl ⟨by rfl, ?_⟩) hS ?_
            rotate_left
            · intro w hSw
              go_simp <;> with_reducible rfl
            try simp only [Act.put, List.setIfInBounds_toArray, List.set_cons_zero, List.set_cons_succ]
            refine wpAnyH_take (i := 68) (oi := ⟨some 147, _, _, _, _, _⟩) (v := ?_) rfl (by kernel_rfl) (by kernel_rfl) (by kernel_rfl) (fun _ _ _ h => h) (Or.inl ⟨by rfl, ?_⟩) hS ?_
            rotate_left
            · intro w hSw
              go_simp <;> with_reducible rfl
            try simp only [Act.put, List.setIfInBounds_toArray, List.set_cons_zero, List.set_cons_succ]
            refine wpAnyH_take (i := 69) (oi := ⟨some 148, _, _, _, _, _⟩) (v := ?_) rfl (by kernel_rfl) (by kernel_rfl) (by kernel_rfl) (fun _ _ _ h => h) (Or.inl ⟨by rfl, ?_⟩) hS ?_
            rotate_left
            · intro w hSw
              have hm := M4 w hSw
              go_simp <;> with_reducible rfl
            try simp only [Act.put, List.setIfInBounds_toArray, List.set_cons_zero, List.set_cons_succ]
            refine wpAnyH_take (i := 70) (oi := ⟨some 149, _, _, _, _, _⟩) (v := ?_) rfl (by kernel_rfl) (by kernel_rfl) (by kernel_rfl) (fun _ _ _ h => h) (Or.inl ⟨by rfl, ?_⟩) hS ?_
            rotate_left
            · intro w hSw
              have hm := M5 w hSw
              go_simp <;> with_reducible rfl
            try simp only [Act.put, List.setIfInBounds_toArray, List.set_cons_zero, List.set_cons_succ]
            refine wpAnyH_take (i := 72) (oi := ⟨some 151, _, _, _, _, _⟩) (v := ?_) rfl (by kernel_rfl) (by kernel_rfl) (by kernel_rfl) (fun _ _ _ h => h) (Or.inl ⟨by rfl, ?_⟩) hS ?_
            rotate_left
            · intro w hSw
              go_simp <;> with_reducible rfl
            try simp only [Act.put, List.setIfInBounds_toArray, List.set_cons_zero, List.set_cons_succ]
            refine wpAnyH_take (i := 73) (oi := ⟨some 152, _, _, _, _, _⟩) (v := ?_) rfl (by kernel_rfl) (by kernel_rfl) (by kernel_rfl) (fun _ _ _ h => h) (Or.inl ⟨by rfl, ?_⟩) hS ?_
            rotate_left
            · intro w hSw
              have hm := M4 w hSw
              go_simp <;> with_reducible rfl
            try simp only [Act.put, List.setIfInBounds_toArray, List.set_cons_zero, List.set_cons_succ]
            as_aux_lemma =>
              refine wpAnyH_take (i := 74) (oi := ⟨some 153, _, _, _, _, _⟩) (v := ?_) rfl (by kernel_rfl) (by kernel_rfl) (by kernel_rfl) (fun _ _ _ h => h) (Or.inl ⟨by rfl, ?_⟩) hS ?_
              rotate_left
              · intro w hSw
                have hm := M6 w hSw
                go_simp <;> with_reducible rfl
              try simp only [Act.put, List.setIfInBounds_toArray, List.set_cons_zero, List.set_cons_succ]
              refine wpAnyH_ready (rs := [65]) (by kernel_rfl) (by simp) ?_
              refine AllReadyH.cons (o := ⟨some 144, _, _, _, _, _⟩) rfl (fun K hK => ?_) AllReadyH.nil
              go_simp
              refine (rplus_any V5.out V6.out (by decide)).mono ?_
              rintro e' w144 ⟨a144, n144, c144, rfl, v144, f144⟩
              have V144 := Lib.hid (v144.mono (N' := 12) (M' := 12) (by decide) (by decide))
              clear v144
              have V4 := Lib.hid (V4.out.frame f144)
              have V5 := Lib.hid (V5.out.frame f144)
              have V6 := Lib.hid (V6.out.frame f144)
              have FX := hS.trans1 f144
              clear f144
              refine hK.out _ _ (FX) (fun hS => ?_)
              clear hK K
              try simp only [Act.put, List.setIfInBounds_toArray, List.set_cons_zero, List.set_cons_succ]
              refine wpAnyH_ready (rs := [66]) (by kernel_rfl) (by simp) ?_
              refine AllReadyH.cons (o := ⟨some 145, _, _, _, _, _⟩) rfl (fun K hK => ?_) AllReadyH.nil
              go_simp
              refine (rtimes_any V4.out V144.out (by decide) (by decide) (by decide) (by decide) (by decide)).mono ?_
              rintro e' w145 ⟨a145, n145, c145, rfl, v145, f145⟩
              have V145 := Lib.hid (v145.mono (N' := 72) (M' := 24) (by decide) (by decide))
              clear v145
              have V4 := Lib.hid (V4.out.frame f145)
              have V5 := Lib.hid (V5.out.frame f145)
              have V6 := Lib.hid (V6.out.frame f145)
              have FX := hS.trans1 f145
              clear f145
              refine hK.out _ _ (FX) (fun hS => ?_)
              clear hK K
              try simp only [Act.put, List.setIfInBounds_toArray, List.set_cons_zero, List.set_cons_succ]
              refine wpAnyH_ready (rs := [71]) (by kernel_rfl) (by simp) ?_
              refine AllReadyH.cons (o := ⟨some 150, _, _, _, _, _⟩) rfl (fun K hK => ?_) AllReadyH.nil
              go_simp
              refine (rtimes_any V4.out V5.out (by decide) (by decide) (by decide) (by decide) (by decide)).mono ?_
              rintro e' w150 ⟨a150, n150, c150, rfl, v150, f150⟩
              have V150 := Lib.hid (v150.mono (N' := 36) (M' := 24) (by decide) (by decide))
              clear v150
              have V4 := Lib.hid (V4.out.frame f150)
              have V5 := Lib.hid (V5.out.frame f150)
              have V6 := Lib.hid (V6.out.frame f150)
              have V145 := Lib.hid (V145.out.frame f150)
              have FX := hS.trans1 f150
              clear f150
              refine hK.out _ _ (FX) (fun hS => ?_)
              clear hK K
              try simp only [Act.put, List.setIfInBounds_toArray, List.set_cons_zero, List.set_cons_succ]
              refine wpAnyH_ready (rs := [75]) (by kernel_rfl) (by simp) ?_
              refine AllReadyH.cons (o := ⟨some 154, _, _, _, _, _⟩) rfl (fun K hK => ?_) AllReadyH.nil
              go_simp
              refine (rtimes_any V4.out V6.out (by decide) (by decide) (by decide) (by decide) (by decide)).mono ?_
              rintro e' w154 ⟨a154, n154, c154, rfl, v154, f154⟩
              have V154 := Lib.hid (v154.mono (N' := 36) (M' := 24) (by decide) (by decide))
              clear v154
              have V4 := Lib.hid (V4.out.frame f154)
              have V5 := Lib.hid (V5.out.frame f154)
              have V6 := Lib.hid (V6.out.frame f154)
              have V145 := Lib.hid (V145.out.frame f154)
              have V150 := Lib.hid (V150.out.frame f154)
              have FX := hS.trans1 f154
              clear f154
              refine hK.out _ _ (FX) (fun hS => ?_)
              clear hK K
              try simp only [Act.put, List.setIfInBounds_toArray, List.set_cons_zero, List.set_cons_succ]
              refine wpAnyH_ready (rs := [76]) (by kernel_rfl) (by simp) ?_
              refine AllReadyH.cons (o := ⟨some 155, _, _, _, _, _⟩) rfl (fun K hK => ?_) AllReadyH.nil
              go_simp
              refine (rplus_any V150.out V154.out (by decide)).mono ?_
              rintro e' w155 ⟨a155, n155, c155, rfl, v155, f155⟩
              have V155 := Lib.hid (v155.mono (N' := 72) (M' := 24) (by decide) (by decide))
              clear v155
              have V4 := Lib.hid (V4.out.frame f155)
              have V5 := Lib.hid (V5.out.frame f155)
              have V6 := Lib.hid (V6.out.frame f155)
              have V145 := Lib.hid (V145.out.frame f155)
              have FX := hS.trans1 f155
              clear f155
              refine hK.out _ _ (FX) (fun hS => ?_)
              clear hK K
              try simp only [Act.put, List.setIfInBounds_toArray, List.set_cons_zero, List.set_cons_succ]
              refine wpAnyH_ready (rs := [77]) (by kernel_rfl) (by simp) ?_
              refine AllReadyH.cons (o := ⟨some 156, _, _, _, _, _⟩) rfl (fun K hK => ?_) AllReadyH.nil
              go_simp
              refine (rsame5_any V145.out V155.out (by decide) (by decide) law_dist).mono ?_
              rintro e' w156 ⟨rfl, f156⟩
              have V4 := Lib.hid (V4.out.frame f156)
              have V5 := Lib.hid (V5.out.frame f156)
              have V6 := Lib.hid (V6.out.frame f156)
              have FX := hS.trans1 f156
              clear f156
              refine hK.out _ _ (FX) (fun hS => ?_)
              clear hK K
              try simp only [Act.put, List.setIfInBounds_toArray, List.set_cons_zero, List.set_cons_succ]
              refine wpAnyH_take (i := 78) (oi := ⟨some 157, _, _, _, _, _⟩) (v := ?_) rfl (by kernel_rfl) (by kernel_rfl) (by kernel_rfl) (fun _ _ _ h => h) (Or.inl ⟨by rfl, ?_⟩) hS ?_
              rotate_left
              · intro w hSw
                go_simp <;> with_reducible rfl
              try simp only [Act.put, List.setIfInBounds_toArray, List.set_cons_zero, List.set_cons_succ]
              refine wpAnyH_take (i := 79) (oi := ⟨some 16, _, _, _, _, _⟩) (v := ?_) rfl (by kernel_rfl) (by kernel_rfl) (by kernel_rfl) (fun _ _ _ h => h) (Or.inl ⟨by rfl, ?_⟩) hS ?_
              rotate_left
              · intro w hSw
                go_simp <;> with_reducible rfl
              try simp only [Act.put, List.setIfInBounds_toArray, List.set_cons_zero, List.set_cons_succ]
              refine wpAnyH_done (by kernel_rfl) ?_ _
              as_aux_lemma =>
                have F := Lib.hid (F.out.trans1 hS)
                clear M4 M5 M6
                have B4 := Lib.hid (B4.out.frame hS (by simp))
                have B5 := Lib.hid (B5.out.frame hS (by simp))
                have B6 := Lib.hid (B6.out.frame hS (by simp))
                clear hS
                have M4 := fam_cellR B4.out
                have M5 := fam_cellR B5.out
                have M6 := fam_cellR B6.out
                go_wp2_with fail
                refine wp_region_held_drew (S := fun w' => Frame [] w156 w') (by kernel_rfl) (by show Frame [] w156 _; (repeat first | assumption | exact Frame.refl _ _ | refine Frame.trans1 ?_ (Frame.alloc _ _ _) | refine Frame.trans1 ?_ (Frame.drew _ _) | refine Frame.trans1 ?_ (Frame.drewN _ _ _))) ?_
                intro hS
                have V4 := Lib.hid (V4.out.frame (Frame.drew [] w156))
                have V5 := Lib.hid (V5.out.frame (Frame.drew [] w156))
                have V6 := Lib.hid (V6.out.frame (Frame.drew [] w156))
                refine wpAnyH_take (i := 0) (oi := ⟨some 158, _, _, _, _, _⟩) (v := ?_) rfl (by kernel_rfl) (by kernel_rfl) (by kernel_rfl) (fun _ _ _ h => h) (Or.inl ⟨by rfl, ?_⟩) hS ?_
                rotate_left
                · intro w hSw
                  go_simp <;> with_reducible rfl
                try simp only [Act.put, List.setIfInBounds_toArray, List.set_cons_zero, List.set_cons_succ]
                refine wpAnyH_take (i := 1) (oi := ⟨some 159, _, _, _, _, _⟩) (v := ?_) rfl (by kernel_rfl) (by kernel_rfl) (by kernel_rfl) (fun _ _ _ h => h) (Or.inl ⟨by rfl, ?_⟩) hS ?_
                rotate_left
                · intro w hSw
                  go_simp <;> with_reducible rfl
                try simp only [Act.put, List.setIfInBounds_toArray, List.set_cons_zero, List.set_cons_succ]
                refine wpAnyH_take (i := 2) (oi := ⟨some 160, _, _, _, _, _⟩) (v := ?_) rfl (by kernel_rfl) (by kernel_rfl) (by kernel_rfl) (fun _ _ _ h => h) (Or.inl ⟨by rfl, ?_⟩) hS ?_
                rotate_left
                · intro w hSw
                  go_simp <;> with_reducible rfl
                try simp only [Act.put, List.setIfInBounds_toArray, List.set_cons_zero, List.set_cons_succ]
                refine wpAnyH_take (i := 3) (oi := ⟨some 161, _, _, _, _, _⟩) (v := ?_) rfl (by kernel_rfl) (by kernel_rfl) (by kernel_rfl) (fun _ _ _ h => h) (Or.inl ⟨by rfl, ?_⟩) hS ?_
                rotate_left
                · intro w hSw
                  go_simp <;> with_reducible rfl
                try simp only [Act.put, List.setIfInBounds_toArray, List.set_cons_zero, List.set_cons_succ]
                refine wpAnyH_take (i := 4) (oi := ⟨some 162, _, _, _, _, _⟩) (v := ?_) rfl (by kernel_rfl) (by kernel_rfl) (by kernel_rfl) (fun _ _ _ h => h) (Or.inl ⟨by rfl, ?_⟩) hS ?_
                rotate_left
                · intro w hSw
                  have hm := M4 w hSw
                  go_simp <;> with_reducible rfl
                try simp only [Act.put, List.setIfInBounds_toArray, List.set_cons_zero, List.set_cons_succ]
                refine wpAnyH_take (i := 5) (oi := ⟨some 163, _, _, _, _, _⟩) (v := ?_) rfl (by kernel_rfl) (by kernel_rfl) (by kernel_rfl) (fun _ _ _ h => h) (Or.inl ⟨by rfl, ?_⟩) hS ?_
                rotate_left
                · intro w hSw
                  have hm := M4 w hSw
                  go_simp <;> with_reducible rfl
                try simp only [Act.put, List.setIfInBounds_toArray, List.set_cons_zero, List.set_cons_succ]
                refine wpAnyH_take (i := 7) (oi := ⟨some 165, _, _, _, _, _⟩) (v := ?_) rfl (by kernel_rfl) (by kernel_rfl) (by kernel_rfl) (fun _ _ _ h => h) (Or.inl ⟨by rfl, ?_⟩) hS ?_
                rotate_left
                · intro w hSw
                  have hm := M4 w hSw
                  go_simp <;> with_reducible rfl
                try simp only [Act.put, List.setIfInBounds_toArray, List.set_cons_zero, List.set_cons_succ]
                refine wpAnyH_ready (rs := [6]) (by kernel_rfl) (by simp) ?_
                refine AllReadyH.cons (o := ⟨some 164, _, _, _, _, _⟩) rfl (fun K hK => ?_) AllReadyH.nil
                go_simp
                refine (rplus_any V4.out V4.out (by decide)).mono ?_
                rintro e' w164 ⟨a164, n164, c164, rfl, v164, f164⟩
                have V164 := Lib.hid (v164.mono (N' := 12) (M' := 12) (by decide) (by decide))
                clear v164
                have V4 := Lib.hid (V4.out.frame f164)
                have V5 := Lib.hid (V5.out.frame f164)
                have V6 := Lib.hid (V6.out.frame f164)
                have FX := hS.trans1 f164
                clear f164
                refine hK.out _ _ (FX) (fun hS => ?_)
                clear hK K
                try simp only [Act.put, List.setIfInBounds_toArray, List.set_cons_zero, List.set_cons_succ]
                refine wpAnyH_ready (rs := [8]) (by kernel_rfl) (by simp) ?_
                refine AllReadyH.cons (o := ⟨some 166, _, _, _, _, _⟩) rfl (fun K hK => ?_) AllReadyH.nil
                go_simp
                refine (rsame5_any V164.out V4.out (by decide) (by decide) (law_plus_self L1.out)).mono ?_
                rintro e' w166 ⟨rfl, f166⟩
                have V4 := Lib.hid (V4.out.frame f166)
                have V5 := Lib.hid (V5.out.frame f166)
                have V6 := Lib.hid (V6.out.frame f166)
                have FX := hS.trans1 f166
                clear f166
                refine hK.out _ _ (FX) (fun hS => ?_)
                clear hK K
                try simp only [Act.put, List.setIfInBounds_toArray, List.set_cons_zero, List.set_cons_succ]
                refine wpAnyH_take (i := 9) (oi := ⟨some 167, _, _, _, _, _⟩) (v := ?_) rfl (by kernel_rfl) (by kernel_rfl) (by kernel_rfl) (fun _ _ _ h => h) (Or.inl ⟨by rfl, ?_⟩) hS ?_
                rotate_left
                · intro w hSw
                  go_simp <;> with_reducible rfl
                try simp only [Act.put, List.setIfInBounds_toArray, List.set_cons_zero, List.set_cons_succ]
                refine wpAnyH_take (i := 10) (oi := ⟨some 168, _, _, _, _, _⟩) (v := ?_) rfl (by kernel_rfl) (by kernel_rfl) (by kernel_rfl) (fun _ _ _ h => h) (Or.inl ⟨by rfl, ?_⟩) hS ?_
                rotate_left
                · intro w hSw
                  go_simp <;> with_reducible rfl
                try simp only [Act.put, List.setIfInBounds_toArray, List.set_cons_zero, List.set_cons_succ]
                as_aux_lemma =>
                  refine wpAnyH_take (i := 11) (oi := ⟨some 169, _, _, _, _, _⟩) (v := ?_) rfl (by kernel_rfl) (by kernel_rfl) (by kernel_rfl) (fun _ _ _ h => h) (Or.inl ⟨by rfl, ?_⟩) hS ?_
                  rotate_left
                  · intro w hSw
                    go_simp <;> with_reducible rfl
                  try simp only [Act.put, List.setIfInBounds_toArray, List.set_cons_zero, List.set_cons_succ]
                  refine wpAnyH_take (i := 12) (oi := ⟨some 170, _, _, _, _, _⟩) (v := ?_) rfl (by kernel_rfl) (by kernel_rfl) (by kernel_rfl) (fun _ _ _ h => h) (Or.inl ⟨by rfl, ?_⟩) hS ?_
                  rotate_left
                  · intro w hSw
                    go_simp <;> with_reducible rfl
                  try simp only [Act.put, List.setIfInBounds_toArray, List.set_cons_zero, List.set_cons_succ]
                  refine wpAnyH_take (i := 13) (oi := ⟨some 171, _, _, _, _, _⟩) (v := ?_) rfl (by kernel_rfl) (by kernel_rfl) (by kernel_rfl) (fun _ _ _ h => h) (Or.inl ⟨by rfl, ?_⟩) hS ?_
                  rotate_left
                  · intro w hSw
                    have hm := M4 w hSw
                    go_simp <;> with_reducible rfl
                  try simp only [Act.put, List.setIfInBounds_toArray, List.set_cons_zero, List.set_cons_succ]
                  refine wpAnyH_take (i := 14) (oi := ⟨some 172, _, _, _, _, _⟩) (v := ?_) rfl (by kernel_rfl) (by kernel_rfl) (by kernel_rfl) (fun _ _ _ h => h) (Or.inl ⟨by rfl, ?_⟩) hS ?_
                  rotate_left
                  · intro w hSw
                    have hm := M4 w hSw
                    go_simp <;> with_reducible rfl
                  try simp only [Act.put, List.setIfInBounds_toArray, List.set_cons_zero, List.set_cons_succ]
                  refine wpAnyH_take (i := 16) (oi := ⟨some 174, _, _, _, _, _⟩) (v := ?_) rfl (by kernel_rfl) (by kernel_rfl) (by kernel_rfl) (fun _ _ _ h => h) (Or.inl ⟨by rfl, ?_⟩) hS ?_
                  rotate_left
                  · intro w hSw
                    have hm := M4 w hSw
                    go_simp <;> with_reducible rfl
                  try simp only [Act.put, List.setIfInBounds_toArray, List.set_cons_zero, List.set_cons_succ]
                  refine wpAnyH_ready (rs := [15]) (by kernel_rfl) (by simp) ?_
                  refine AllReadyH.cons (o := ⟨some 173, _, _, _, _, _⟩) rfl (fun K hK => ?_) AllReadyH.nil
                  go_simp
                  refine (rtimes_any V4.out V4.out (by decide) (by decide) (by decide) (by decide) (by decide)).mono ?_
                  rintro e' w173 ⟨a173, n173, c173, rfl, v173, f173⟩
                  have V173 := Lib.hid (v173.mono (N' := 36) (M' := 24) (by decide) (by decide))
                  clear v173
                  have V4 := Lib.hid (V4.out.frame f173)
                  have V5 := Lib.hid (V5.out.frame f173)
                  have V6 := Lib.hid (V6.out.frame f173)
                  have FX := hS.trans1 f173
                  clear f173
                  refine hK.out _ _ (FX) (fun hS => ?_)
                  clear hK K
                  try simp only [Act.put, List.setIfInBounds_toArray, List.set_cons_zero, List.set_cons_succ]
                  refine wpAnyH_ready (rs := [17]) (by kernel_rfl) (by simp) ?_
                  refine AllReadyH.cons (o := ⟨some 175, _, _, _, _, _⟩) rfl (fun K hK => ?_) AllReadyH.nil
                  go_simp
                  refine (rsame5_any V173.out V4.out (by decide) (by decide) (law_times_self L1.out)).mono ?_
                  rintro e' w175 ⟨rfl, f175⟩
                  have V4 := Lib.hid (V4.out.frame f175)
                  have V5 := Lib.hid (V5.out.frame f175)
                  have V6 := Lib.hid (V6.out.frame f175)
                  have FX := hS.trans1 f175
                  clear f175
                  refine hK.out _ _ (FX) (fun hS => ?_)
                  clear hK K
                  try simp only [Act.put, List.setIfInBounds_toArray, List.set_cons_zero, List.set_cons_succ]
                  refine wpAnyH_take (i := 18) (oi := ⟨some 176, _, _, _, _, _⟩) (v := ?_) rfl (by kernel_rfl) (by kernel_rfl) (by kernel_rfl) (fun _ _ _ h => h) (Or.inl ⟨by rfl, ?_⟩) hS ?_
                  rotate_left
                  · intro w hSw
                    go_simp <;> with_reducible rfl
                  try simp only [Act.put, List.setIfInBounds_toArray, List.set_cons_zero, List.set_cons_succ]
                  refine wpAnyH_take (i := 19) (oi := ⟨some 177, _, _, _, _, _⟩) (v := ?_) rfl (by kernel_rfl) (by kernel_rfl) (by kernel_rfl) (fun _ _ _ h => h) (Or.inl ⟨by rfl, ?_⟩) hS ?_
                  rotate_left
                  · intro w hSw
                    go_simp <;> with_reducible rfl
                  try simp only [Act.put, List.setIfInBounds_toArray, List.set_cons_zero, List.set_cons_succ]
                  refine wpAnyH_take (i := 20) (oi := ⟨some 178, _, _, _, _, _⟩) (v := ?_) rfl (by kernel_rfl) (by kernel_rfl) (by kernel_rfl) (fun _ _ _ h => h) (Or.inl ⟨by rfl, ?_⟩) hS ?_
                  rotate_left
                  · intro w hSw
                    go_simp <;> with_reducible rfl
                  try simp only [Act.put, List.setIfInBounds_toArray, List.set_cons_zero, List.set_cons_succ]
                  refine wpAnyH_take (i := 21) (oi := ⟨some 179, _, _, _, _, _⟩) (v := ?_) rfl (by kernel_rfl) (by kernel_rfl) (by kernel_rfl) (fun _ _ _ h => h) (Or.inl ⟨by rfl, ?_⟩) hS ?_
                  rotate_left
                  · intro w hSw
                    go_simp <;> with_reducible rfl
                  try simp only [Act.put, List.setIfInBounds_toArray, List.set_cons_zero, List.set_cons_succ]
                  refine wpAnyH_take (i := 22) (oi := ⟨some 180, _, _, _, _, _⟩) (v := ?_) rfl (by kernel_rfl) (by kernel_rfl) (by kernel_rfl) (fun _ _ _ h => h) (Or.inl ⟨by rfl, ?_⟩) hS ?_
                  rotate_left
                  · intro w hSw
                    have hm := M4 w hSw
                    go_simp <;> with_reducible rfl
                  try simp only [Act.put, List.setIfInBounds_toArray, List.set_cons_zero, List.set_cons_succ]
                  as_aux_lemma =>
                    refine wpAnyH_ready (rs := [23]) (by kernel_rfl) (by simp) ?_
                    refine AllReadyH.cons (o := ⟨some 181, _, _, _, _, _⟩) rfl (fun K hK => ?_) AllReadyH.nil
                    go_simp
                    refine (aone_any _).mono ?_
                    rintro e' w181 ⟨v181, rfl, h181, f181⟩
                    obtain ⟨a181, n181, c181, rfl, g181⟩ := one_fam h181
                    have V181 := Lib.hid g181
                    clear h181 g181
                    have V4 := Lib.hid (V4.out.frame f181)
                    have V5 := Lib.hid (V5.out.frame f181)
                    have V6 := Lib.hid (V6.out.frame f181)
                    have FX := hS.trans1 f181
                    clear f181
                    refine hK.out _ _ (FX) (fun hS => ?_)
                    clear hK K
                    try simp only [Act.put, List.setIfInBounds_toArray, List.set_cons_zero, List.set_cons_succ]
                    refine wpAnyH_ready (rs := [24]) (by kernel_rfl) (by simp) ?_
                    refine AllReadyH.cons (o := ⟨some 182, _, _, _, _, _⟩) rfl (fun K hK => ?_) AllReadyH.nil
                    go_simp
                    refine (rplus_any V4.out V181.out (by decide)).mono ?_
                    rintro e' w182 ⟨a182, n182, c182, rfl, v182, f182⟩
                    have V182 := Lib.hid (v182.mono (N' := 7) (M' := 12) (by decide) (by decide))
                    clear v182
                    have V4 := Lib.hid (V4.out.frame f182)
                    have V5 := Lib.hid (V5.out.frame f182)
                    have V6 := Lib.hid (V6.out.frame f182)
                    have FX := hS.trans1 f182
                    clear f182
                    refine hK.out _ _ (FX) (fun hS => ?_)
                    clear hK K
                    try simp only [Act.put, List.setIfInBounds_toArray, List.set_cons_zero, List.set_cons_succ]
                    refine wpAnyH_ready (rs := [25]) (by kernel_rfl) (by simp) ?_
                    refine AllReadyH.cons (o := ⟨some 183, _, _, _, _, _⟩) rfl (fun K hK => ?_) AllReadyH.nil
                    go_simp
                    refine (aone_any _).mono ?_
                    rintro e' w183 ⟨v183, rfl, h183, f183⟩
                    obtain ⟨a183, n183, c183, rfl, g183⟩ := one_fam h183
                    have V183 := Lib.hid g183
                    clear h183 g183
                    have V4 := Lib.hid (V4.out.frame f183)
                    have V5 := Lib.hid (V5.out.frame f183)
                    have V6 := Lib.hid (V6.out.frame f183)
                    have V182 := Lib.hid (V182.out.frame f183)
                    have FX := hS.trans1 f183
                    clear f183
                    refine hK.out _ _ (FX) (fun hS => ?_)
                    clear hK K
                    try simp only [Act.put, List.setIfInBounds_toArray, List.set_cons_zero, List.set_cons_succ]
                    refine wpAnyH_ready (rs := [26]) (by kernel_rfl) (by simp) ?_
                    refine AllReadyH.cons (o := ⟨some 184, _, _, _, _, _⟩) rfl (fun K hK => ?_) AllReadyH.nil
                    go_simp
                    refine (rsame5_any V182.out V183.out (by decide) (by decide) law_plus_one).mono ?_
                    rintro e' w184 ⟨rfl, f184⟩
                    have V4 := Lib.hid (V4.out.frame f184)
                    have V5 := Lib.hid (V5.out.frame f184)
                    have V6 := Lib.hid (V6.out.frame f184)
                    have FX := hS.trans1 f184
                    clear f184
                    refine hK.out _ _ (FX) (fun hS => ?_)
                    clear hK K
                    try simp only [Act.put, List.setIfInBounds_toArray, List.set_cons_zero, List.set_cons_succ]
                    refine wpAnyH_take (i := 27) (oi := ⟨some 185, _, _, _, _, _⟩) (v := ?_) rfl (by kernel_rfl) (by kernel_rfl) (by kernel_rfl) (fun _ _ _ h => h) (Or.inl ⟨by rfl, ?_⟩) hS ?_
                    rotate_left
                    · intro w hSw
                      go_simp <;> with_reducible rfl
                    try simp only [Act.put, List.setIfInBounds_toArray, List.set_cons_zero, List.set_cons_succ]
                    refine wpAnyH_take (i := 28) (oi := ⟨some 186, _, _, _, _, _⟩) (v := ?_) rfl (by kernel_rfl) (by kernel_rfl) (by kernel_rfl) (fun _ _ _ h => h) (Or.inl ⟨by rfl, ?_⟩) hS ?_
                    rotate_left
                    · intro w hSw
                      go_simp <;> with_reducible rfl
                    try simp only [Act.put, List.setIfInBounds_toArray, List.set_cons_zero, List.set_cons_succ]
                    refine wpAnyH_take (i := 29) (oi := ⟨some 187, _, _, _, _, _⟩) (v := ?_) rfl (by kernel_rfl) (by kernel_rfl) (by kernel_rfl) (fun _ _ _ h => h) (Or.inl ⟨by rfl, ?_⟩) hS ?_
                    rotate_left
                    · intro w hSw
                      go_simp <;> with_reducible rfl
                    try simp only [Act.put, List.setIfInBounds_toArray, List.set_cons_zero, List.set_cons_succ]
                    refine wpAnyH_take (i := 30) (oi := ⟨some 188, _, _, _, _, _⟩) (v := ?_) rfl (by kernel_rfl) (by kernel_rfl) (by kernel_rfl) (fun _ _ _ h => h) (Or.inl ⟨by rfl, ?_⟩) hS ?_
                    rotate_left
                    · intro w hSw
                      go_simp <;> with_reducible rfl
                    try simp only [Act.put, List.setIfInBounds_toArray, List.set_cons_zero, List.set_cons_succ]
                    refine wpAnyH_take (i := 31) (oi := ⟨some 189, _, _, _, _, _⟩) (v := ?_) rfl (by kernel_rfl) (by kernel_rfl) (by kernel_rfl) (fun _ _ _ h => h) (Or.inl ⟨by rfl, ?_⟩) hS ?_
                    rotate_left
                    · intro w hSw
                      have hm := M4 w hSw
                      go_simp <;> with_reducible rfl
                    try simp only [Act.put, List.setIfInBounds_toArray, List.set_cons_zero, List.set_cons_succ]
                    refine wpAnyH_take (i := 34) (oi := ⟨some 192, _, _, _, _, _⟩) (v := ?_) rfl (by kernel_rfl) (by kernel_rfl) (by kernel_rfl) (fun _ _ _ h => h) (Or.inl ⟨by rfl, ?_⟩) hS ?_
                    rotate_left
                    · intro w hSw
                      have hm := M4 w hSw
                      go_simp <;> with_reducible rfl
                    try simp only [Act.put, List.setIfInBounds_toArray, List.set_cons_zero, List.set_cons_succ]
                    refine wpAnyH_ready (rs := [32]) (by kernel_rfl) (by simp) ?_
                    refine AllReadyH.cons (o := ⟨some 190, _, _, _, _, _⟩) rfl (fun K hK => ?_) AllReadyH.nil
                    go_simp
                    refine (aone_any _).mono ?_
                    rintro e' w190 ⟨v190, rfl, h190, f190⟩
                    obtain ⟨a190, n190, c190, rfl, g190⟩ := one_fam h190
                    have V190 := Lib.hid g190
                    clear h190 g190
                    have V4 := Lib.hid (V4.out.frame f190)
                    have V5 := Lib.hid (V5.out.frame f190)
                    have V6 := Lib.hid (V6.out.frame f190)
                    have FX := hS.trans1 f190
                    clear f190
                    refine hK.out _ _ (FX) (fun hS => ?_)
                    clear hK K
                    try simp only [Act.put, List.setIfInBounds_toArray, List.set_cons_zero, List.set_cons_succ]
                    refine wpAnyH_ready (rs := [33]) (by kernel_rfl) (by simp) ?_
                    refine AllReadyH.cons (o := ⟨some 191, _, _, _, _, _⟩) rfl (fun K hK => ?_) AllReadyH.nil
                    go_simp
                    refine (rtimes_any V4.out V190.out (by decide) (by decide) (by decide) (by decide) (by decide)).mono ?_
                    rintro e' w191 ⟨a191, n191, c191, rfl, v191, f191⟩
                    have V191 := Lib.hid (v191.mono (N' := 6) (M' := 12) (by decide) (by decide))
                    clear v191
                    have V4 := Lib.hid (V4.out.frame f191)
                    have V5 := Lib.hid (V5.out.frame f191)
                    have V6 := Lib.hid (V6.out.frame f191)
                    have FX := hS.trans1 f191
                    clear f191
                    refine hK.out _ _ (FX) (fun hS => ?_)
                    clear hK K
                    try simp only [Act.put, List.setIfInBounds_toArray, List.set_cons_zero, List.set_cons_succ]
                    as_aux_lemma =>
                      refine wpAnyH_ready (rs := [35]) (by kernel_rfl) (by simp) ?_
                      refine AllReadyH.cons (o := ⟨some 193, _, _, _, _, _⟩) rfl (fun K hK => ?_) AllReadyH.nil
                      go_simp
                      refine (rsame5_any V191.out V4.out (by decide) (by decide) (law_times_one L1.out)).mono ?_
                      rintro e' w193 ⟨rfl, f193⟩
                      have V4 := Lib.hid (V4.out.frame f193)
                      have V5 := Lib.hid (V5.out.frame f193)
                      have V6 := Lib.hid (V6.out.frame f193)
                      have FX := hS.trans1 f193
                      clear f193
                      refine hK.out _ _ (FX) (fun hS => ?_)
                      clear hK K
                      try simp only [Act.put, List.setIfInBounds_toArray, List.set_cons_zero, List.set_cons_succ]
                      refine wpAnyH_take (i := 36) (oi := ⟨some 194, _, _, _, _, _⟩) (v := ?_) rfl (by kernel_rfl) (by kernel_rfl) (by kernel_rfl) (fun _ _ _ h => h) (Or.inl ⟨by rfl, ?_⟩) hS ?_
                      rotate_left
                      · intro w hSw
                        go_simp <;> with_reducible rfl
                      try simp only [Act.put, List.setIfInBounds_toArray, List.set_cons_zero, List.set_cons_succ]
                      refine wpAnyH_take (i := 37) (oi := ⟨some 195, _, _, _, _, _⟩) (v := ?_) rfl (by kernel_rfl) (by kernel_rfl) (by kernel_rfl) (fun _ _ _ h => h) (Or.inl ⟨by rfl, ?_⟩) hS ?_
                      rotate_left
                      · intro w hSw
                        go_simp <;> with_reducible rfl
                      try simp only [Act.put, List.setIfInBounds_toArray, List.set_cons_zero, List.set_cons_succ]
                      refine wpAnyH_take (i := 38) (oi := ⟨some 196, _, _, _, _, _⟩) (v := ?_) rfl (by kernel_rfl) (by kernel_rfl) (by kernel_rfl) (fun _ _ _ h => h) (Or.inl ⟨by rfl, ?_⟩) hS ?_
                      rotate_left
                      · intro w hSw
                        go_simp <;> with_reducible rfl
                      try simp only [Act.put, List.setIfInBounds_toArray, List.set_cons_zero, List.set_cons_succ]
                      refine wpAnyH_take (i := 39) (oi := ⟨some 197, _, _, _, _, _⟩) (v := ?_) rfl (by kernel_rfl) (by kernel_rfl) (by kernel_rfl) (fun _ _ _ h => h) (Or.inl ⟨by rfl, ?_⟩) hS ?_
                      rotate_left
                      · intro w hSw
                        go_simp <;> with_reducible rfl
                      try simp only [Act.put, List.setIfInBounds_toArray, List.set_cons_zero, List.set_cons_succ]
                      refine wpAnyH_take (i := 40) (oi := ⟨some 198, _, _, _, _, _⟩) (v := ?_) rfl (by kernel_rfl) (by kernel_rfl) (by kernel_rfl) (fun _ _ _ h => h) (Or.inl ⟨by rfl, ?_⟩) hS ?_
                      rotate_left
                      · intro w hSw
                        have hm := M4 w hSw
                        go_simp <;> with_reducible rfl
                      try simp only [Act.put, List.setIfInBounds_toArray, List.set_cons_zero, List.set_cons_succ]
                      refine wpAnyH_take (i := 43) (oi := ⟨some 201, _, _, _, _, _⟩) (v := ?_) rfl (by kernel_rfl) (by kernel_rfl) (by kernel_rfl) (fun _ _ _ h => h) (Or.inl ⟨by rfl, ?_⟩) hS ?_
                      rotate_left
                      · intro w hSw
                        have hm := M4 w hSw
                        go_simp <;> with_reducible rfl
                      try simp only [Act.put, List.setIfInBounds_toArray, List.set_cons_zero, List.set_cons_succ]
                      refine wpAnyH_ready (rs := [41]) (by kernel_rfl) (by simp) ?_
                      refine AllReadyH.cons (o := ⟨some 199, _, _, _, _, _⟩) rfl (fun K hK => ?_) AllReadyH.nil
                      go_simp
                      refine (azero_any _).mono ?_
                      rintro e' w199 ⟨rfl, f199⟩
                      have V199 := Lib.hid (nil_fam w199)
                      have V4 := Lib.hid (V4.out.frame f199)
                      have V5 := Lib.hid (V5.out.frame f199)
                      have V6 := Lib.hid (V6.out.frame f199)
                      have FX := hS.trans1 f199
                      clear f199
                      refine hK.out _ _ (FX) (fun hS => ?_)
                      clear hK K
                      try simp only [Act.put, List.setIfInBounds_toArray, List.set_cons_zero, List.set_cons_succ]
                      refine wpAnyH_ready (rs := [42]) (by kernel_rfl) (by simp) ?_
                      refine AllReadyH.cons (o := ⟨some 200, _, _, _, _, _⟩) rfl (fun K hK => ?_) AllReadyH.nil
                      go_simp
                      refine (rplus_any V4.out V199.out (by decide)).mono ?_
                      rintro e' w200 ⟨a200, n200, c200, rfl, v200, f200⟩
                      have V200 := Lib.hid (v200.mono (N' := 6) (M' := 12) (by decide) (by decide))
                      clear v200
                      have V4 := Lib.hid (V4.out.frame f200)
                      have V5 := Lib.hid (V5.out.frame f200)
                      have V6 := Lib.hid (V6.out.frame f200)
                      have FX := hS.trans1 f200
                      clear f200
                      refine hK.out _ _ (FX) (fun hS => ?_)
                      clear hK K
                      try simp only [Act.put, List.setIfInBounds_toArray, List.set_cons_zero, List.set_cons_succ]
                      refine wpAnyH_ready (rs := [44]) (by kernel_rfl) (by simp) ?_
                      refine AllReadyH.cons (o := ⟨some 202, _, _, _, _, _⟩) rfl (fun K hK => ?_) AllReadyH.nil
                      go_simp
                      refine (rsame5_any V200.out V4.out (by decide) (by decide) (law_plus_nil L1.out)).mono ?_
                      rintro e' w202 ⟨rfl, f202⟩
                      have V4 := Lib.hid (V4.out.frame f202)
                      have V5 := Lib.hid (V5.out.frame f202)
                      have V6 := Lib.hid (V6.out.frame f202)
                      have FX := hS.trans1 f202
                      clear f202
                      refine hK.out _ _ (FX) (fun hS => ?_)
                      clear hK K
                      try simp only [Act.put, List.setIfInBounds_toArray, List.set_cons_zero, List.set_cons_succ]
                      refine wpAnyH_take (i := 45) (oi := ⟨some 203, _, _, _, _, _⟩) (v := ?_) rfl (by kernel_rfl) (by kernel_rfl) (by kernel_rfl) (fun _ _ _ h => h) (Or.inl ⟨by rfl, ?_⟩) hS ?_
                      rotate_left
                      · intro w hSw
                        go_simp <;> with_reducible rfl
                      try simp only [Act.put, List.setIfInBounds_toArray, List.set_cons_zero, List.set_cons_succ]
                      refine wpAnyH_take (i := 46) (oi := ⟨some 204, _, _, _, _, _⟩) (v := ?_) rfl (by kernel_rfl) (by kernel_rfl) (by kernel_rfl) (fun _ _ _ h => h) (Or.inl ⟨by rfl, ?_⟩) hS ?_
                      rotate_left
                      · intro w hSw
                        go_simp <;> with_reducible rfl
                      try simp only [Act.put, List.setIfInBounds_toArray, List.set_cons_zero, List.set_cons_succ]
                      as_aux_lemma =>
                        refine wpAnyH_take (i := 47) (oi := ⟨some 205, _, _, _, _, _⟩) (v := ?_) rfl (by kernel_rfl) (by kernel_rfl) (by kernel_rfl) (fun _ _ _ h => h) (Or.inl ⟨by rfl, ?_⟩) hS ?_
                        rotate_left
                        · intro w hSw
                          go_simp <;> with_reducible rfl
                        try simp only [Act.put, List.setIfInBounds_toArray, List.set_cons_zero, List.set_cons_succ]
                        refine wpAnyH_take (i := 48) (oi := ⟨some 206, _, _, _, _, _⟩) (v := ?_) rfl (by kernel_rfl) (by kernel_rfl) (by kernel_rfl) (fun _ _ _ h => h) (Or.inl ⟨by rfl, ?_⟩) hS ?_
                        rotate_left
                        · intro w hSw
                          have hm := M4 w hSw
                          go_simp <;> with_reducible rfl
                        try simp only [Act.put, List.setIfInBounds_toArray, List.set_cons_zero, List.set_cons_succ]
                        refine wpAnyH_ready (rs := [49]) (by kernel_rfl) (by simp) ?_
                        refine AllReadyH.cons (o := ⟨some 207, _, _, _, _, _⟩) rfl (fun K hK => ?_) AllReadyH.nil
                        go_simp
                        refine (azero_any _).mono ?_
                        rintro e' w207 ⟨rfl, f207⟩
                        have V207 := Lib.hid (nil_fam w207)
                        have V4 := Lib.hid (V4.out.frame f207)
                        have V5 := Lib.hid (V5.out.frame f207)
                        have V6 := Lib.hid (V6.out.frame f207)
                        have FX := hS.trans1 f207
                        clear f207
                        refine hK.out _ _ (FX) (fun hS => ?_)
                        clear hK K
                        try simp only [Act.put, List.setIfInBounds_toArray, List.set_cons_zero, List.set_cons_succ]
                        refine wpAnyH_ready (rs := [50]) (by kernel_rfl) (by simp) ?_
                        refine AllReadyH.cons (o := ⟨some 208, _, _, _, _, _⟩) rfl (fun K hK => ?_) AllReadyH.nil
                        go_simp
                        refine (rtimes_any V4.out V207.out (by decide) (by decide) (by decide) (by decide) (by decide)).mono ?_
                        rintro e' w208 ⟨a208, n208, c208, rfl, v208, f208⟩
                        have V208 := Lib.hid (v208.mono (N' := 0) (M' := 12) (by decide) (by decide))
                        clear v208
                        have V4 := Lib.hid (V4.out.frame f208)
                        have V5 := Lib.hid (V5.out.frame f208)
                        have V6 := Lib.hid (V6.out.frame f208)
                        have FX := hS.trans1 f208
                        clear f208
                        refine hK.out _ _ (FX) (fun hS => ?_)
                        clear hK K
                        try simp only [Act.put, List.setIfInBounds_toArray, List.set_cons_zero, List.set_cons_succ]
                        refine wpAnyH_ready (rs := [51]) (by kernel_rfl) (by simp) ?_
                        refine AllReadyH.cons (o := ⟨some 209, _, _, _, _, _⟩) rfl (fun K hK => ?_) AllReadyH.nil
                        go_simp
                        have e208 : n208 = 0 := by rw [V208.out.len, law_times_nil]; rfl
                        subst e208
                        refine (alen_any a208 0 c208 _).mono ?_
                        rintro e' w209 ⟨rfl, f209⟩
                        have V4 := Lib.hid (V4.out.frame f209)
                        have V5 := Lib.hid (V5.out.frame f209)
                        have V6 := Lib.hid (V6.out.frame f209)
                        have FX := hS.trans1 f209
                        clear f209
                        refine hK.out _ _ (FX) (fun hS => ?_)
                        clear hK K
                        try simp only [Act.put, List.setIfInBounds_toArray, List.set_cons_zero, List.set_cons_succ]
                        refine wpAnyH_take (i := 52) (oi := ⟨some 210, _, _, _, _, _⟩) (v := ?_) rfl (by kernel_rfl) (by kernel_rfl) (by kernel_rfl) (fun _ _ _ h => h) (Or.inl ⟨by rfl, ?_⟩) hS ?_
                        rotate_left
                        · intro w hSw
                          go_simp <;> with_reducible rfl
                        try simp only [Act.put, List.setIfInBounds_toArray, List.set_cons_zero, List.set_cons_succ]
                        refine wpAnyH_take (i := 53) (oi := ⟨some 211, _, _, _, _, _⟩) (v := ?_) rfl (by kernel_rfl) (by kernel_rfl) (by kernel_rfl) (fun _ _ _ h => h) (Or.inl ⟨by rfl, ?_⟩) hS ?_
                        rotate_left
                        · intro w hSw
                          go_simp <;> with_reducible rfl
                        try simp only [Act.put, List.setIfInBounds_toArray, List.set_cons_zero, List.set_cons_succ]
                        refine wpAnyH_take (i := 54) (oi := ⟨some 212, _, _, _, _, _⟩) (v := ?_) rfl (by kernel_rfl) (by kernel_rfl) (by kernel_rfl) (fun _ _ _ h => h) (Or.inl ⟨by rfl, ?_⟩) hS ?_
                        rotate_left
                        · intro w hSw
                          go_simp <;> with_reducible rfl
                        try simp only [Act.put, List.setIfInBounds_toArray, List.set_cons_zero, List.set_cons_succ]
                        refine wpAnyH_take (i := 55) (oi := ⟨some 213, _, _, _, _, _⟩) (v := ?_) rfl (by kernel_rfl) (by kernel_rfl) (by kernel_rfl) (fun _ _ _ h => h) (Or.inl ⟨by rfl, ?_⟩) hS ?_
                        rotate_left
                        · intro w hSw
                          go_simp <;> with_reducible rfl
                        try simp only [Act.put, List.setIfInBounds_toArray, List.set_cons_zero, List.set_cons_succ]
                        refine wpAnyH_take (i := 56) (oi := ⟨some 214, _, _, _, _, _⟩) (v := ?_) rfl (by kernel_rfl) (by kernel_rfl) (by kernel_rfl) (fun _ _ _ h => h) (Or.inl ⟨by rfl, ?_⟩) hS ?_
                        rotate_left
                        · intro w hSw
                          go_simp <;> with_reducible rfl
                        try simp only [Act.put, List.setIfInBounds_toArray, List.set_cons_zero, List.set_cons_succ]
                        refine wpAnyH_take (i := 57) (oi := ⟨some 215, _, _, _, _, _⟩) (v := ?_) rfl (by kernel_rfl) (by kernel_rfl) (by kernel_rfl) (fun _ _ _ h => h) (Or.inl ⟨by rfl, ?_⟩) hS ?_
                        rotate_left
                        · intro w hSw
                          have hm := M4 w hSw
                          go_simp <;> with_reducible rfl
                        try simp only [Act.put, List.setIfInBounds_toArray, List.set_cons_zero, List.set_cons_succ]
                        refine wpAnyH_take (i := 58) (oi := ⟨some 216, _, _, _, _, _⟩) (v := ?_) rfl (by kernel_rfl) (by kernel_rfl) (by kernel_rfl) (fun _ _ _ h => h) (Or.inl ⟨by rfl, ?_⟩) hS ?_
                        rotate_left
                        · intro w hSw
                          go_simp <;> with_reducible rfl
                        try simp only [Act.put, List.setIfInBounds_toArray, List.set_cons_zero, List.set_cons_succ]
                        as_aux_lemma =>
                          refine wpAnyH_take (i := 59) (oi := ⟨some 217, _, _, _, _, _⟩) (v := ?_) rfl (by kernel_rfl) (by kernel_rfl) (by kernel_rfl) (fun _ _ _ h => h) (Or.inl ⟨by rfl, ?_⟩) hS ?_
                          rotate_left
                          · intro w hSw
                            have hm := M4 w hSw
                            go_simp <;> with_reducible rfl
                          try simp only [Act.put, List.setIfInBounds_toArray, List.set_cons_zero, List.set_cons_succ]
                          refine wpAnyH_take (i := 60) (oi := ⟨some 218, _, _, _, _, _⟩) (v := ?_) rfl (by kernel_rfl) (by kernel_rfl) (by kernel_rfl) (fun _ _ _ h => h) (Or.inl ⟨by rfl, ?_⟩) hS ?_
                          rotate_left
                          · intro w hSw
                            have hm := M5 w hSw
                            go_simp <;> with_reducible rfl
                          try simp only [Act.put, List.setIfInBounds_toArray, List.set_cons_zero, List.set_cons_succ]
                          refine wpAnyH_take (i := 63) (oi := ⟨some 221, _, _, _, _, _⟩) (v := ?_) rfl (by kernel_rfl) (by kernel_rfl) (by kernel_rfl) (fun _ _ _ h => h) (Or.inl ⟨by rfl, ?_⟩) hS ?_
                          rotate_left
                          · intro w hSw
                            have hm := M4 w hSw
                            go_simp <;> with_reducible rfl
                          try simp only [Act.put, List.setIfInBounds_toArray, List.set_cons_zero, List.set_cons_succ]
                          refine wpAnyH_ready (rs := [61]) (by kernel_rfl) (by simp) ?_
                          refine AllReadyH.cons (o := ⟨some 219, _, _, _, _, _⟩) rfl (fun K hK => ?_) AllReadyH.nil
                          go_simp
                          refine (rtimes_any V4.out V5.out (by decide) (by decide) (by decide) (by decide) (by decide)).mono ?_
                          rintro e' w219 ⟨a219, n219, c219, rfl, v219, f219⟩
                          have V219 := Lib.hid (v219.mono (N' := 36) (M' := 24) (by decide) (by decide))
                          clear v219
                          have V4 := Lib.hid (V4.out.frame f219)
                          have V5 := Lib.hid (V5.out.frame f219)
                          have V6 := Lib.hid (V6.out.frame f219)
                          have FX := hS.trans1 f219
                          clear f219
                          refine hK.out _ _ (FX) (fun hS => ?_)
                          clear hK K
                          try simp only [Act.put, List.setIfInBounds_toArray, List.set_cons_zero, List.set_cons_succ]
                          refine wpAnyH_ready (rs := [62]) (by kernel_rfl) (by simp) ?_
                          refine AllReadyH.cons (o := ⟨some 220, _, _, _, _, _⟩) rfl (fun K hK => ?_) AllReadyH.nil
                          go_simp
                          refine (rplus_any V4.out V219.out (by decide)).mono ?_
                          rintro e' w220 ⟨a220, n220, c220, rfl, v220, f220⟩
                          have V220 := Lib.hid (v220.mono (N' := 42) (M' := 24) (by decide) (by decide))
                          clear v220
                          have V4 := Lib.hid (V4.out.frame f220)
                          have V5 := Lib.hid (V5.out.frame f220)
                          have V6 := Lib.hid (V6.out.frame f220)
                          have FX := hS.trans1 f220
                          clear f220
                          refine hK.out _ _ (FX) (fun hS => ?_)
                          clear hK K
                          try simp only [Act.put, List.setIfInBounds_toArray, List.set_cons_zero, List.set_cons_succ]
                          refine wpAnyH_ready (rs := [64]) (by kernel_rfl) (by simp) ?_
                          refine AllReadyH.cons (o := ⟨some 222, _, _, _, _, _⟩) rfl (fun K hK => ?_) AllReadyH.nil
                          go_simp
                          refine (rsame5_any V220.out V4.out (by decide) (by decide) (law_swallow L1.out)).mono ?_
                          rintro e' w222 ⟨rfl, f222⟩
                          have V4 := Lib.hid (V4.out.frame f222)
                          have V5 := Lib.hid (V5.out.frame f222)
                          have V6 := Lib.hid (V6.out.frame f222)
                          have FX := hS.trans1 f222
                          clear f222
                          refine hK.out _ _ (FX) (fun hS => ?_)
                          clear hK K
                          try simp only [Act.put, List.setIfInBounds_toArray, List.set_cons_zero, List.set_cons_succ]
                          refine wpAnyH_take (i := 65) (oi := ⟨some 223, _, _, _, _, _⟩) (v := ?_) rfl (by kernel_rfl) (by kernel_rfl) (by kernel_rfl) (fun _ _ _ h => h) (Or.inl ⟨by rfl, ?_⟩) hS ?_
                          rotate_left
                          · intro w hSw
                            go_simp <;> with_reducible rfl
                          try simp only [Act.put, List.setIfInBounds_toArray, List.set_cons_zero, List.set_cons_succ]
                          refine wpAnyH_take (i := 66) (oi := ⟨some 224, _, _, _, _, _⟩) (v := ?_) rfl (by kernel_rfl) (by kernel_rfl) (by kernel_rfl) (fun _ _ _ h => h) (Or.inl ⟨by rfl, ?_⟩) hS ?_
                          rotate_left
                          · intro w hSw
                            go_simp <;> with_reducible rfl
                          try simp only [Act.put, List.setIfInBounds_toArray, List.set_cons_zero, List.set_cons_succ]
                          refine wpAnyH_ready (rs := [67]) (by kernel_rfl) (by simp) ?_
                          refine AllReadyH.cons (o := ⟨some 225, _, _, _, _, _⟩) rfl (fun K hK => ?_) AllReadyH.nil
                          go_simp
                          refine (awake5 _).mono ?_
                          rintro e' w225 ⟨rfl, f225⟩
                          have V4 := Lib.hid (V4.out.frame f225)
                          have V5 := Lib.hid (V5.out.frame f225)
                          have V6 := Lib.hid (V6.out.frame f225)
                          have FX := hS.trans1 f225
                          clear f225
                          refine hK.out _ _ (FX) (fun hS => ?_)
                          clear hK K
                          try simp only [Act.put, List.setIfInBounds_toArray, List.set_cons_zero, List.set_cons_succ]
                          refine wpAnyH_take (i := 68) (oi := ⟨some 226, _, _, _, _, _⟩) (v := ?_) rfl (by kernel_rfl) (by kernel_rfl) (by kernel_rfl) (fun _ _ _ h => h) (Or.inl ⟨by rfl, ?_⟩) hS ?_
                          rotate_left
                          · intro w hSw
                            go_simp <;> with_reducible rfl
                          try simp only [Act.put, List.setIfInBounds_toArray, List.set_cons_zero, List.set_cons_succ]
                          refine wpAnyH_take (i := 69) (oi := ⟨some 6, _, _, _, _, _⟩) (v := ?_) rfl (by kernel_rfl) (by kernel_rfl) (by kernel_rfl) (fun _ _ _ h => h) (Or.inl ⟨by rfl, ?_⟩) hS ?_
                          rotate_left
                          · intro w hSw
                            go_simp <;> with_reducible rfl
                          try simp only [Act.put, List.setIfInBounds_toArray, List.set_cons_zero, List.set_cons_succ]
                          refine wpAnyH_done (by kernel_rfl) ?_ _
                          go_wp2_with fail
                          go_ret
                          exact ⟨rfl, F.out.trans1 hS⟩
end Go.Proofs.Ytojfemaamhampaa
