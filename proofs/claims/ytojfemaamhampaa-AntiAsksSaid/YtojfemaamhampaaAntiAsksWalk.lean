/- tansylaw5.AntiAsks: the walk. -/
import Derived.Test.YtojfemaamhampaaRUnions5
import Derived.Test.YtojfemaamhampaaRules5
namespace Go.Proofs.Ytojfemaamhampaa
open Go.RowKit
set_option linter.unusedSimpArgs false
set_option linter.unusedVariables false

theorem NewSets.fresh {w w' : World} {f : List (List Int)} {e : Ending} (h : NewSets w f e w') : ∃ a c vs, e = .returned (.slice a vs.length c) ∧ RV w' a vs ∧ vs.map (·.l) = f ∧ Frame [] w w' := by
  obtain ⟨a, c, vs, G, h1, h2, h3, _, h5, _⟩ := h
  exact ⟨a, c, vs, h1, h2.rv, h3, h5⟩
def RowEnd (f : List (List Int)) (w : World) (e : Ending) (w' : World) : Prop := ∃ a c vs, e = .returned (.slice a (List.length vs) c) ∧ RV w' a vs ∧ vs.map (·.l) = f ∧ Frame [] w w'
theorem lists_yes (p q : Option Addr) (i j : Nat) (xs ys : List SV) (f : List (List Int)) (w' : World) (r1 : RV w' p xs) (r2 : RV w' q ys) (m1 : xs.map (·.l) = f) (m2 : ys.map (·.l) = f) (hl : f.length ≤ 1000000) :
    Calls Try.prog 23 #[.slice p xs.length i, .slice q ys.length j] w' fun e w'' => e = .returned (.bool true) ∧ Frame [] w' w'' := by
  have h1 := congrArg List.length m1
  have h2 := congrArg List.length m2
  rw [List.length_map] at h1 h2
  have h := lists_any p q i j xs ys w' r1 r2 (by omega) (by omega)
  rw [m1, m2] at h
  simpa using h
theorem rhas_yes (a a2 : Option Addr) (c c2 : Nat) (vs : List SV) (S : List Int) (f : List (List Int)) (w : World) (h : RV w a vs) (m : vs.map (·.l) = f) (hl : f.length ≤ 1000000) (hS : RdI w a2 S) (hSl : S.length ≤ 1000000) :
    Calls Try.prog 29 #[.slice a vs.length c, .slice a2 S.length c2] w fun e w' => e = .returned (.bool (hasL f S)) ∧ Frame [] w w' := by
  have h1 := congrArg List.length m
  rw [List.length_map] at h1
  have := rhas_any a a2 c c2 vs S w h (by omega) hS hSl
  rwa [m] at this
theorem over_no {n : Nat} {b : Int} (h : (n : Int) ≤ b) (h2 : n ≤ 5000) : overB n b = false := by
  unfold overB
  rw [decide_eq_false (by omega), decide_eq_false (by omega)]; rfl
theorem over_yes {n : Nat} {b : Int} (h : b < (n : Int)) : overB n b = true := by
  unfold overB
  rw [decide_eq_true (by omega)]; rfl
set_option maxRecDepth 100000 in
theorem antiAsks_out (a b d : Option Addr) (c e k : Nat) (vs us : List SV) (S : List Int) (z : Int) (w : World) (h1 : Arg5 w a vs) (h2 : Arg5 w b us) (hs : ¬ SmallW [⟨a, c, vs⟩, ⟨b, e, us⟩]) :
    Calls Try.prog 7 #[.slice a vs.length c, .slice b us.length e, .slice d S.length k, .int .i64 z] w fun e' w' => e' = .returned (.bool true) ∧ Frame [] w w' := by
  have SS := small_two a b c e vs us w h1 h2
  rw [decide_eq_false hs] at SS
  have HS := Lib.hid SS
  clear SS h1 h2 hs
  go_enter Try.func7, Try.ntmps7
  go_wp2_with fail
  refine HS.out.mono ?_
  rintro e' w1 ⟨rfl, f1⟩
  have F := Lib.hid f1
  clear f1 HS
  go_wp2_with fail
  refine (awake5 _).mono ?_
  rintro e' wz ⟨rfl, fz⟩
  go_wp2_with fail
  go_ret
  exact ⟨rfl, F.out.trans1 fz⟩
set_option maxRecDepth 100000 in
theorem antiAsks_long (a b d : Option Addr) (c e k : Nat) (vs us : List SV) (S : List Int) (z : Int) (w : World) (h1 : Arg5 w a vs) (h2 : Arg5 w b us) (hs : SmallW [⟨a, c, vs⟩, ⟨b, e, us⟩]) (hl : 100 < S.length) :
    Calls Try.prog 7 #[.slice a vs.length c, .slice b us.length e, .slice d S.length k, .int .i64 z] w fun e' w' => e' = .returned (.bool true) ∧ Frame [] w w' := by
  have SS := small_two a b c e vs us w h1 h2
  rw [decide_eq_true hs] at SS
  have HS := Lib.hid SS
  clear SS h1 h2 hs
  have hd : decide ((S.length : Int) > 100) = true := decide_eq_true (by omega)
  go_enter Try.func7, Try.ntmps7
  go_wp2_with fail
  refine HS.out.mono ?_
  rintro e' w1 ⟨rfl, f1⟩
  have F := Lib.hid f1
  clear f1 HS
  go_wp2_with fail
  refine (awake5 _).mono ?_
  rintro e' wz ⟨rfl, fz⟩
  go_wp2_with fail
  go_ret
  exact ⟨rfl, F.out.trans1 fz⟩
def OfBad (w : World) (e : Ending) (w' : World) : Prop := ∃ a c, e = .returned (.tuple #[.agg #[.slice a 0 c], .int .i64 1]) ∧ Frame [] w w'
theorem of_bad (a : Option Addr) (c : Nat) (vs : List SV) (w : World) (h : RV w a vs) (hl : vs.length ≤ 12) (hg : goodL (vs.map (·.l)) = false) :
    Calls Try.prog 15 #[.slice a vs.length c] w (OfBad w) := by
  have := aof_any a c vs w h (by omega)
  rw [hg] at this
  refine this.mono ?_
  rintro e w' ⟨v, rfl, hv, f⟩
  obtain ⟨a', c', xs, rfl, _, h3⟩ := (show FV w' v [] from hv)
  obtain rfl : xs = [] := by simpa using h3
  exact ⟨a', c', rfl, f⟩
set_option maxHeartbeats 8000000 in
set_option maxRecDepth 100000 in
theorem antiAsks_bad11 (a b d : Option Addr) (c e k : Nat) (vs us : List SV) (S : List Int) (z : Int) (w : World) (h1 : Arg5 w a vs) (h2 : Arg5 w b us) (h3 : RdI w d S) (hs : SmallW [⟨a, c, vs⟩, ⟨b, e, us⟩]) (g1 : goodL (vs.map (·.l)) = false) (g2 : goodL (us.map (·.l)) = false) (hl : S.length ≤ 100) :
    Calls Try.prog 7 #[.slice a vs.length c, .slice b us.length e, .slice d S.length k, .int .i64 z] w fun e' w' => e' = .returned (.bool true) ∧ Frame [] w w' := by
  have SS := small_two a b c e vs us w h1 h2
  rw [decide_eq_true hs] at SS
  have HS := Lib.hid SS
  obtain ⟨⟨p1, l1⟩, p2, l2⟩ := small_parts2 hs
  have R1 := h1.rv l1
  have R2 := h2.rv l2
  have S3 := Lib.hid h3
  have hd : decide ((S.length : Int) > 100) = false := decide_eq_false (by omega)
  have SA : Hid (∀ w', RdI w' d S → Calls Try.prog 10 #[.slice d S.length k] w' (FreshEnd 3 1 encI (srtI S) w')) := fun w' h => asorted_any d k S w' h (by omega)
  have SR : Hid (∀ w', RdI w' d S → Calls Try.prog 27 #[.slice d S.length k] w' (FreshEnd 3 1 encI (srtI S) w')) := fun w' h => rsortI_any _ d k S w' h.rfT (by omega)
  have SL : Hid ((srtI S).length ≤ 100) := Nat.le_trans (srtI_len S) hl
  have G1 : Hid (∀ w', Frame [] w w' → Calls Try.prog 14 #[.slice a vs.length c] w' fun e' w'' => e' = .returned (.bool false) ∧ Frame [] w' w'') := fun w' f => by
    have := good_any a c vs w' (R1.frame f) (by omega)
    rwa [g1] at this
  have G2 : Hid (∀ w', Frame [] w w' → Calls Try.prog 14 #[.slice b us.length e] w' fun e' w'' => e' = .returned (.bool false) ∧ Frame [] w' w'') := fun w' f => by
    have := good_any b e us w' (R2.frame f) (by omega)
    rwa [g2] at this
  have O1 : Hid (∀ w', Frame [] w w' → Calls Try.prog 15 #[.slice a vs.length c] w' (OfBad w')) := fun w' f => of_bad a c vs w' (R1.frame f) p1 g1
  have O2 : Hid (∀ w', Frame [] w w' → Calls Try.prog 15 #[.slice b us.length e] w' (OfBad w')) := fun w' f => of_bad b e us w' (R2.frame f) p2 g2
  clear SS h1 h2 h3 hs g1 g2 l1 l2 R1 R2
  go_enter Try.func7, Try.ntmps7
  go_wp2_with fail
  refine HS.out.mono ?_
  rintro e' w1 ⟨rfl, f1⟩
  have F := Lib.hid f1
  clear f1 HS
  go_wp2_with fail
  have S3 := Lib.hid (S3.out.frame F.out)
  refine (O1.out _ F.out).mono ?_
  rintro e' w2 ⟨a4, c4, rfl, f2⟩
  have q4 := f2.trans1 (Frame.alloc [] w2 (.cells #[.slice a4 0 c4] 30))
  have S3 := Lib.hid (S3.out.frame q4)
  have F := Lib.hid (F.out.trans1 q4)
  clear O1
  have B4 := Lib.hid (Blk.new w2 30 #[.slice a4 0 c4])
  clear f2 q4
  go_wp2_with fail
  generalize w2.heap.size = b4 at *
  generalize w2.alloc (.cells #[.slice a4 0 c4] 30) = x4 at *
  refine (O2.out _ F.out).mono ?_
  rintro e' w3 ⟨a5, c5, rfl, f3⟩
  have q5 := f3.trans1 (Frame.alloc [] w3 (.cells #[.slice a5 0 c5] 30))
  have S3 := Lib.hid (S3.out.frame q5)
  have B4 := Lib.hid (B4.out.frame q5 (by simp))
  have F := Lib.hid (F.out.trans1 q5)
  clear O2
  have B5 := Lib.hid (Blk.new w3 30 #[.slice a5 0 c5])
  clear f3 q5
  go_wp2_with fail
  generalize w3.heap.size = b5 at *
  generalize w3.alloc (.cells #[.slice a5 0 c5] 30) = x5 at *
  refine (G1.out _ F.out).mono ?_
  rintro e' w4 ⟨rfl, f4⟩
  have S3 := Lib.hid (S3.out.frame f4)
  have B4 := Lib.hid (B4.out.frame f4 (by simp))
  have B5 := Lib.hid (B5.out.frame f4 (by simp))
  have F := Lib.hid (F.out.trans1 f4)
  clear f4
  go_wp2_with fail
  refine (G2.out _ F.out).mono ?_
  rintro e' w5 ⟨rfl, f5⟩
  have S3 := Lib.hid (S3.out.frame f5)
  have B4 := Lib.hid (B4.out.frame f5 (by simp))
  have B5 := Lib.hid (B5.out.frame f5 (by simp))
  have F := Lib.hid (F.out.trans1 f5)
  clear f5
  go_wp2_with fail
  refine (SA.out _ S3.out).mono ?_
  rintro e' w6 ⟨a10, c10, G10, rfl, s10, f10, -⟩
  have S3 := Lib.hid (S3.out.frame f10)
  have B4 := Lib.hid (B4.out.frame f10 (by simp))
  have B5 := Lib.hid (B5.out.frame f10 (by simp))
  have F := Lib.hid (F.out.trans1 f10)
  have D10 := Lib.hid s10.rdI
  clear s10 f10
  go_wp2_with fail
  refine (SR.out _ S3.out).mono ?_
  rintro e' w7 ⟨a11, c11, G11, rfl, s11, f11, -⟩
  have S3 := Lib.hid (S3.out.frame f11)
  have B4 := Lib.hid (B4.out.frame f11 (by simp))
  have B5 := Lib.hid (B5.out.frame f11 (by simp))
  have D10 := Lib.hid (D10.out.frame f11)
  have F := Lib.hid (F.out.trans1 f11)
  have D11 := Lib.hid s11.rdI
  clear s11 f11
  go_wp2_with fail
  have II := ints_dec a10 a11 c10 c11 (srtI S) (srtI S) _ D10.out D11.out (by have := SL.out; omega) (by have := SL.out; omega)
  rw [decide_eq_true rfl] at II
  have II := Lib.hid II
  refine (II.out).mono ?_
  rintro e' w8 ⟨rfl, f8⟩
  have S3 := Lib.hid (S3.out.frame f8)
  have B4 := Lib.hid (B4.out.frame f8 (by simp))
  have B5 := Lib.hid (B5.out.frame f8 (by simp))
  have D10 := Lib.hid (D10.out.frame f8)
  have D11 := Lib.hid (D11.out.frame f8)
  have F := Lib.hid (F.out.trans1 f8)
  clear f8
  clear D10 D11
  clear II SA SR G1 G2
  have t4 := B4.out.at 0 rfl
  go_wp2_with fail
  clear t4
  refine (alen_any a4 0 c4 _).mono ?_
  rintro e' w9 ⟨rfl, f9⟩
  have S3 := Lib.hid (S3.out.frame f9)
  have B4 := Lib.hid (B4.out.frame f9 (by simp))
  have B5 := Lib.hid (B5.out.frame f9 (by simp))
  have F := Lib.hid (F.out.trans1 f9)
  clear f9
  go_wp2_with fail
  refine (awake5 _).mono ?_
  rintro e' wz ⟨rfl, fz⟩
  go_wp2_with fail
  go_ret
  exact ⟨rfl, F.out.trans1 fz⟩
set_option maxHeartbeats 8000000 in
set_option maxRecDepth 100000 in
theorem antiAsks_bad10 (a b d : Option Addr) (c e k : Nat) (vs us : List SV) (S : List Int) (z : Int) (w : World) (h1 : Arg5 w a vs) (h2 : Arg5 w b us) (h3 : RdI w d S) (hs : SmallW [⟨a, c, vs⟩, ⟨b, e, us⟩]) (g1 : goodL (vs.map (·.l)) = false) (g2 : goodL (us.map (·.l)) = true) (hl : S.length ≤ 100) :
    Calls Try.prog 7 #[.slice a vs.length c, .slice b us.length e, .slice d S.length k, .int .i64 z] w fun e' w' => e' = .returned (.bool true) ∧ Frame [] w w' := by
  have SS := small_two a b c e vs us w h1 h2
  rw [decide_eq_true hs] at SS
  have HS := Lib.hid SS
  obtain ⟨⟨p1, l1⟩, p2, l2⟩ := small_parts2 hs
  have R1 := h1.rv l1
  have R2 := h2.rv l2
  have S3 := Lib.hid h3
  have hd : decide ((S.length : Int) > 100) = false := decide_eq_false (by omega)
  have SA : Hid (∀ w', RdI w' d S → Calls Try.prog 10 #[.slice d S.length k] w' (FreshEnd 3 1 encI (srtI S) w')) := fun w' h => asorted_any d k S w' h (by omega)
  have SR : Hid (∀ w', RdI w' d S → Calls Try.prog 27 #[.slice d S.length k] w' (FreshEnd 3 1 encI (srtI S) w')) := fun w' h => rsortI_any _ d k S w' h.rfT (by omega)
  have SL : Hid ((srtI S).length ≤ 100) := Nat.le_trans (srtI_len S) hl
  have G1 : Hid (∀ w', Frame [] w w' → Calls Try.prog 14 #[.slice a vs.length c] w' fun e' w'' => e' = .returned (.bool false) ∧ Frame [] w' w'') := fun w' f => by
    have := good_any a c vs w' (R1.frame f) (by omega)
    rwa [g1] at this
  have G2 : Hid (∀ w', Frame [] w w' → Calls Try.prog 14 #[.slice b us.length e] w' fun e' w'' => e' = .returned (.bool true) ∧ Frame [] w' w'') := fun w' f => by
    have := good_any b e us w' (R2.frame f) (by omega)
    rwa [g2] at this
  have O1 : Hid (∀ w', Frame [] w w' → Calls Try.prog 15 #[.slice a vs.length c] w' (OfBad w')) := fun w' f => of_bad a c vs w' (R1.frame f) p1 g1
  have O2 : Hid (∀ w', Frame [] w w' → Calls Try.prog 15 #[.slice b us.length e] w' (OfEnd (leastR (us.map (·.l))) us.length 12 w')) := fun w' f => of_good b e us w' (R2.frame f) p2 l2 g2
  clear SS h1 h2 h3 hs g1 g2 l1 l2 R1 R2
  go_enter Try.func7, Try.ntmps7
  go_wp2_with fail
  refine HS.out.mono ?_
  rintro e' w1 ⟨rfl, f1⟩
  have F := Lib.hid f1
  clear f1 HS
  go_wp2_with fail
  have S3 := Lib.hid (S3.out.frame F.out)
  refine (O1.out _ F.out).mono ?_
  rintro e' w2 ⟨a4, c4, rfl, f2⟩
  have q4 := f2.trans1 (Frame.alloc [] w2 (.cells #[.slice a4 0 c4] 30))
  have S3 := Lib.hid (S3.out.frame q4)
  have F := Lib.hid (F.out.trans1 q4)
  clear O1
  have B4 := Lib.hid (Blk.new w2 30 #[.slice a4 0 c4])
  clear f2 q4
  go_wp2_with fail
  generalize w2.heap.size = b4 at *
  generalize w2.alloc (.cells #[.slice a4 0 c4] 30) = x4 at *
  refine (O2.out _ F.out).mono ?_
  rintro e' w3 ⟨a5, n5, c5, rfl, v5, f3⟩
  have q5 := f3.trans1 (Frame.alloc [] w3 (.cells #[.slice a5 n5 c5] 30))
  have S3 := Lib.hid (S3.out.frame q5)
  have B4 := Lib.hid (B4.out.frame q5 (by simp))
  have F := Lib.hid (F.out.trans1 q5)
  have V5 := Lib.hid (v5.frame (Frame.alloc [] w3 (.cells #[.slice a5 n5 c5] 30)))
  clear v5 O2
  have B5 := Lib.hid (Blk.new w3 30 #[.slice a5 n5 c5])
  clear f3 q5
  go_wp2_with fail
  generalize w3.heap.size = b5 at *
  generalize w3.alloc (.cells #[.slice a5 n5 c5] 30) = x5 at *
  refine (G1.out _ F.out).mono ?_
  rintro e' w4 ⟨rfl, f4⟩
  have S3 := Lib.hid (S3.out.frame f4)
  have B4 := Lib.hid (B4.out.frame f4 (by simp))
  have B5 := Lib.hid (B5.out.frame f4 (by simp))
  have V5 := Lib.hid (V5.out.frame f4)
  have F := Lib.hid (F.out.trans1 f4)
  clear f4
  go_wp2_with fail
  refine (G2.out _ F.out).mono ?_
  rintro e' w5 ⟨rfl, f5⟩
  have S3 := Lib.hid (S3.out.frame f5)
  have B4 := Lib.hid (B4.out.frame f5 (by simp))
  have B5 := Lib.hid (B5.out.frame f5 (by simp))
  have V5 := Lib.hid (V5.out.frame f5)
  have F := Lib.hid (F.out.trans1 f5)
  clear f5
  go_wp2_with fail
  refine (SA.out _ S3.out).mono ?_
  rintro e' w6 ⟨a10, c10, G10, rfl, s10, f10, -⟩
  have S3 := Lib.hid (S3.out.frame f10)
  have B4 := Lib.hid (B4.out.frame f10 (by simp))
  have B5 := Lib.hid (B5.out.frame f10 (by simp))
  have V5 := Lib.hid (V5.out.frame f10)
  have F := Lib.hid (F.out.trans1 f10)
  have D10 := Lib.hid s10.rdI
  clear s10 f10
  go_wp2_with fail
  refine (SR.out _ S3.out).mono ?_
  rintro e' w7 ⟨a11, c11, G11, rfl, s11, f11, -⟩
  have S3 := Lib.hid (S3.out.frame f11)
  have B4 := Lib.hid (B4.out.frame f11 (by simp))
  have B5 := Lib.hid (B5.out.frame f11 (by simp))
  have V5 := Lib.hid (V5.out.frame f11)
  have D10 := Lib.hid (D10.out.frame f11)
  have F := Lib.hid (F.out.trans1 f11)
  have D11 := Lib.hid s11.rdI
  clear s11 f11
  go_wp2_with fail
  have II := ints_dec a10 a11 c10 c11 (srtI S) (srtI S) _ D10.out D11.out (by have := SL.out; omega) (by have := SL.out; omega)
  rw [decide_eq_true rfl] at II
  have II := Lib.hid II
  refine (II.out).mono ?_
  rintro e' w8 ⟨rfl, f8⟩
  have S3 := Lib.hid (S3.out.frame f8)
  have B4 := Lib.hid (B4.out.frame f8 (by simp))
  have B5 := Lib.hid (B5.out.frame f8 (by simp))
  have V5 := Lib.hid (V5.out.frame f8)
  have D10 := Lib.hid (D10.out.frame f8)
  have D11 := Lib.hid (D11.out.frame f8)
  have F := Lib.hid (F.out.trans1 f8)
  clear f8
  clear D10 D11
  clear II SA SR G1 G2
  have t4 := B4.out.at 0 rfl
  go_wp2_with fail
  clear t4
  refine (alen_any a4 0 c4 _).mono ?_
  rintro e' w9 ⟨rfl, f9⟩
  have S3 := Lib.hid (S3.out.frame f9)
  have B4 := Lib.hid (B4.out.frame f9 (by simp))
  have B5 := Lib.hid (B5.out.frame f9 (by simp))
  have V5 := Lib.hid (V5.out.frame f9)
  have F := Lib.hid (F.out.trans1 f9)
  clear f9
  go_wp2_with fail
  refine (awake5 _).mono ?_
  rintro e' wz ⟨rfl, fz⟩
  go_wp2_with fail
  go_ret
  exact ⟨rfl, F.out.trans1 fz⟩
set_option maxHeartbeats 8000000 in
set_option maxRecDepth 100000 in
theorem antiAsks_bad01 (a b d : Option Addr) (c e k : Nat) (vs us : List SV) (S : List Int) (z : Int) (w : World) (h1 : Arg5 w a vs) (h2 : Arg5 w b us) (h3 : RdI w d S) (hs : SmallW [⟨a, c, vs⟩, ⟨b, e, us⟩]) (g1 : goodL (vs.map (·.l)) = true) (g2 : goodL (us.map (·.l)) = false) (hl : S.length ≤ 100) :
    Calls Try.prog 7 #[.slice a vs.length c, .slice b us.length e, .slice d S.length k, .int .i64 z] w fun e' w' => e' = .returned (.bool true) ∧ Frame [] w w' := by
  have SS := small_two a b c e vs us w h1 h2
  rw [decide_eq_true hs] at SS
  have HS := Lib.hid SS
  obtain ⟨⟨p1, l1⟩, p2, l2⟩ := small_parts2 hs
  have R1 := h1.rv l1
  have R2 := h2.rv l2
  have S3 := Lib.hid h3
  have hd : decide ((S.length : Int) > 100) = false := decide_eq_false (by omega)
  have SA : Hid (∀ w', RdI w' d S → Calls Try.prog 10 #[.slice d S.length k] w' (FreshEnd 3 1 encI (srtI S) w')) := fun w' h => asorted_any d k S w' h (by omega)
  have SR : Hid (∀ w', RdI w' d S → Calls Try.prog 27 #[.slice d S.length k] w' (FreshEnd 3 1 encI (srtI S) w')) := fun w' h => rsortI_any _ d k S w' h.rfT (by omega)
  have SL : Hid ((srtI S).length ≤ 100) := Nat.le_trans (srtI_len S) hl
  have G1 : Hid (∀ w', Frame [] w w' → Calls Try.prog 14 #[.slice a vs.length c] w' fun e' w'' => e' = .returned (.bool true) ∧ Frame [] w' w'') := fun w' f => by
    have := good_any a c vs w' (R1.frame f) (by omega)
    rwa [g1] at this
  have G2 : Hid (∀ w', Frame [] w w' → Calls Try.prog 14 #[.slice b us.length e] w' fun e' w'' => e' = .returned (.bool false) ∧ Frame [] w' w'') := fun w' f => by
    have := good_any b e us w' (R2.frame f) (by omega)
    rwa [g2] at this
  have O1 : Hid (∀ w', Frame [] w w' → Calls Try.prog 15 #[.slice a vs.length c] w' (OfEnd (leastR (vs.map (·.l))) vs.length 12 w')) := fun w' f => of_good a c vs w' (R1.frame f) p1 l1 g1
  have O2 : Hid (∀ w', Frame [] w w' → Calls Try.prog 15 #[.slice b us.length e] w' (OfBad w')) := fun w' f => of_bad b e us w' (R2.frame f) p2 g2
  clear SS h1 h2 h3 hs g1 g2 l1 l2 R1 R2
  go_enter Try.func7, Try.ntmps7
  go_wp2_with fail
  refine HS.out.mono ?_
  rintro e' w1 ⟨rfl, f1⟩
  have F := Lib.hid f1
  clear f1 HS
  go_wp2_with fail
  have S3 := Lib.hid (S3.out.frame F.out)
  refine (O1.out _ F.out).mono ?_
  rintro e' w2 ⟨a4, n4, c4, rfl, v4, f2⟩
  have q4 := f2.trans1 (Frame.alloc [] w2 (.cells #[.slice a4 n4 c4] 30))
  have S3 := Lib.hid (S3.out.frame q4)
  have F := Lib.hid (F.out.trans1 q4)
  have V4 := Lib.hid (v4.frame (Frame.alloc [] w2 (.cells #[.slice a4 n4 c4] 30)))
  clear v4 O1
  have B4 := Lib.hid (Blk.new w2 30 #[.slice a4 n4 c4])
  clear f2 q4
  go_wp2_with fail
  generalize w2.heap.size = b4 at *
  generalize w2.alloc (.cells #[.slice a4 n4 c4] 30) = x4 at *
  refine (O2.out _ F.out).mono ?_
  rintro e' w3 ⟨a5, c5, rfl, f3⟩
  have q5 := f3.trans1 (Frame.alloc [] w3 (.cells #[.slice a5 0 c5] 30))
  have S3 := Lib.hid (S3.out.frame q5)
  have B4 := Lib.hid (B4.out.frame q5 (by simp))
  have V4 := Lib.hid (V4.out.frame q5)
  have F := Lib.hid (F.out.trans1 q5)
  clear O2
  have B5 := Lib.hid (Blk.new w3 30 #[.slice a5 0 c5])
  clear f3 q5
  go_wp2_with fail
  generalize w3.heap.size = b5 at *
  generalize w3.alloc (.cells #[.slice a5 0 c5] 30) = x5 at *
  refine (G1.out _ F.out).mono ?_
  rintro e' w4 ⟨rfl, f4⟩
  have S3 := Lib.hid (S3.out.frame f4)
  have B4 := Lib.hid (B4.out.frame f4 (by simp))
  have V4 := Lib.hid (V4.out.frame f4)
  have B5 := Lib.hid (B5.out.frame f4 (by simp))
  have F := Lib.hid (F.out.trans1 f4)
  clear f4
  go_wp2_with fail
  refine (G2.out _ F.out).mono ?_
  rintro e' w5 ⟨rfl, f5⟩
  have S3 := Lib.hid (S3.out.frame f5)
  have B4 := Lib.hid (B4.out.frame f5 (by simp))
  have V4 := Lib.hid (V4.out.frame f5)
  have B5 := Lib.hid (B5.out.frame f5 (by simp))
  have F := Lib.hid (F.out.trans1 f5)
  clear f5
  go_wp2_with fail
  refine (SA.out _ S3.out).mono ?_
  rintro e' w6 ⟨a10, c10, G10, rfl, s10, f10, -⟩
  have S3 := Lib.hid (S3.out.frame f10)
  have B4 := Lib.hid (B4.out.frame f10 (by simp))
  have V4 := Lib.hid (V4.out.frame f10)
  have B5 := Lib.hid (B5.out.frame f10 (by simp))
  have F := Lib.hid (F.out.trans1 f10)
  have D10 := Lib.hid s10.rdI
  clear s10 f10
  go_wp2_with fail
  refine (SR.out _ S3.out).mono ?_
  rintro e' w7 ⟨a11, c11, G11, rfl, s11, f11, -⟩
  have S3 := Lib.hid (S3.out.frame f11)
  have B4 := Lib.hid (B4.out.frame f11 (by simp))
  have V4 := Lib.hid (V4.out.frame f11)
  have B5 := Lib.hid (B5.out.frame f11 (by simp))
  have D10 := Lib.hid (D10.out.frame f11)
  have F := Lib.hid (F.out.trans1 f11)
  have D11 := Lib.hid s11.rdI
  clear s11 f11
  go_wp2_with fail
  have II := ints_dec a10 a11 c10 c11 (srtI S) (srtI S) _ D10.out D11.out (by have := SL.out; omega) (by have := SL.out; omega)
  rw [decide_eq_true rfl] at II
  have II := Lib.hid II
  refine (II.out).mono ?_
  rintro e' w8 ⟨rfl, f8⟩
  have S3 := Lib.hid (S3.out.frame f8)
  have B4 := Lib.hid (B4.out.frame f8 (by simp))
  have V4 := Lib.hid (V4.out.frame f8)
  have B5 := Lib.hid (B5.out.frame f8 (by simp))
  have D10 := Lib.hid (D10.out.frame f8)
  have D11 := Lib.hid (D11.out.frame f8)
  have F := Lib.hid (F.out.trans1 f8)
  clear f8
  clear D10 D11
  clear II SA SR G1 G2
  have t4 := B4.out.at 0 rfl
  go_wp2_with fail
  clear t4
  refine (alen_any a4 n4 c4 _).mono ?_
  rintro e' w9 ⟨rfl, f9⟩
  have S3 := Lib.hid (S3.out.frame f9)
  have B4 := Lib.hid (B4.out.frame f9 (by simp))
  have V4 := Lib.hid (V4.out.frame f9)
  have B5 := Lib.hid (B5.out.frame f9 (by simp))
  have F := Lib.hid (F.out.trans1 f9)
  clear f9
  rcases Nat.eq_zero_or_pos n4 with h0 | h0
  · have d0 : ((n4 : Int) == 0) = true := beq_iff_eq.2 (by omega)
    clear h0
    go_wp2_with fail
    refine (awake5 _).mono ?_
    rintro e' wz ⟨rfl, fz⟩
    go_wp2_with fail
    go_ret
    exact ⟨rfl, F.out.trans1 fz⟩
  · have d0 : ((n4 : Int) == 0) = false := beq_eq_false_iff_ne.2 (by omega)
    clear h0
    go_wp2_with fail
    refine (awake5 _).mono ?_
    rintro e' wz ⟨rfl, fz⟩
    go_wp2_with fail
    go_ret
    exact ⟨rfl, F.out.trans1 fz⟩
set_option maxHeartbeats 8000000 in
set_option maxRecDepth 100000 in
theorem antiAsks_in_ok_ok (a b d : Option Addr) (c e k : Nat) (vs us : List SV) (S : List Int) (z : Int) (w : World) (h1 : Arg5 w a vs) (h2 : Arg5 w b us) (h3 : RdI w d S) (hs : SmallW [⟨a, c, vs⟩, ⟨b, e, us⟩]) (g1 : goodL (vs.map (·.l)) = true) (g2 : goodL (us.map (·.l)) = true) (hl : S.length ≤ 100) (hp : ((plusL (leastR (vs.map (·.l))) (leastR (us.map (·.l)))).length : Int) ≤ z) (ht : ((timesL (leastR (vs.map (·.l))) (leastR (us.map (·.l)))).length : Int) ≤ z) :
    Calls Try.prog 7 #[.slice a vs.length c, .slice b us.length e, .slice d S.length k, .int .i64 z] w fun e' w' => e' = .returned (.bool true) ∧ Frame [] w w' := by
  have SS := small_two a b c e vs us w h1 h2
  rw [decide_eq_true hs] at SS
  have HS := Lib.hid SS
  obtain ⟨⟨p1, l1⟩, p2, l2⟩ := small_parts2 hs
  have R1 := h1.rv l1
  have R2 := h2.rv l2
  have S3 := Lib.hid h3
  have hd : decide ((S.length : Int) > 100) = false := decide_eq_false (by omega)
  have SA : Hid (∀ w', RdI w' d S → Calls Try.prog 10 #[.slice d S.length k] w' (FreshEnd 3 1 encI (srtI S) w')) := fun w' h => asorted_any d k S w' h (by omega)
  have SR : Hid (∀ w', RdI w' d S → Calls Try.prog 27 #[.slice d S.length k] w' (FreshEnd 3 1 encI (srtI S) w')) := fun w' h => rsortI_any _ d k S w' h.rfT (by omega)
  have SL : Hid ((srtI S).length ≤ 100) := Nat.le_trans (srtI_len S) hl
  have G1 : Hid (∀ w', Frame [] w w' → Calls Try.prog 14 #[.slice a vs.length c] w' fun e' w'' => e' = .returned (.bool true) ∧ Frame [] w' w'') := fun w' f => by
    have := good_any a c vs w' (R1.frame f) (by omega)
    rwa [g1] at this
  have G2 : Hid (∀ w', Frame [] w w' → Calls Try.prog 14 #[.slice b us.length e] w' fun e' w'' => e' = .returned (.bool true) ∧ Frame [] w' w'') := fun w' f => by
    have := good_any b e us w' (R2.frame f) (by omega)
    rwa [g2] at this
  have O1 : Hid (∀ w', Frame [] w w' → Calls Try.prog 15 #[.slice a vs.length c] w' (OfEnd (leastR (vs.map (·.l))) vs.length 12 w')) := fun w' f => of_good a c vs w' (R1.frame f) p1 l1 g1
  have O2 : Hid (∀ w', Frame [] w w' → Calls Try.prog 15 #[.slice b us.length e] w' (OfEnd (leastR (us.map (·.l))) us.length 12 w')) := fun w' f => of_good b e us w' (R2.frame f) p2 l2 g2
  have LE1 : Hid (∀ w', Frame [] w w' → Calls Try.prog 28 #[.slice a vs.length c] w' (RowEnd (leastR (vs.map (·.l))) w')) := fun w' f => (rleast_any a c vs w' (R1.frame f) (by omega)).mono fun _ _ h => h.fresh
  have LE2 : Hid (∀ w', Frame [] w w' → Calls Try.prog 28 #[.slice b us.length e] w' (RowEnd (leastR (us.map (·.l))) w')) := fun w' f => (rleast_any b e us w' (R2.frame f) (by omega)).mono fun _ _ h => h.fresh
  have HP := Lib.hid hp
  have HT := Lib.hid ht
  have sh1 : Hid (∀ s ∈ leastR (vs.map (·.l)), s.length ≤ 12) := least_short fun t ht => by obtain ⟨y, hy, rfl⟩ := List.mem_map.1 ht; exact l1 y hy
  have sh2 : Hid (∀ s ∈ leastR (us.map (·.l)), s.length ≤ 12) := least_short fun t ht => by obtain ⟨y, hy, rfl⟩ := List.mem_map.1 ht; exact l2 y hy
  generalize leastR (vs.map (·.l)) = f at *
  generalize leastR (us.map (·.l)) = g at *
  clear SS h1 h2 h3 hs g1 g2 l1 l2 R1 R2 hp ht
  go_enter Try.func7, Try.ntmps7
  go_wp2_with fail
  refine HS.out.mono ?_
  rintro e' w1 ⟨rfl, f1⟩
  have F := Lib.hid f1
  clear f1 HS
  go_wp2_with fail
  have S3 := Lib.hid (S3.out.frame F.out)
  refine (O1.out _ F.out).mono ?_
  rintro e' w2 ⟨a4, n4, c4, rfl, v4, f2⟩
  have q4 := f2.trans1 (Frame.alloc [] w2 (.cells #[.slice a4 n4 c4] 30))
  have S3 := Lib.hid (S3.out.frame q4)
  have F := Lib.hid (F.out.trans1 q4)
  have V4 := Lib.hid (v4.frame (Frame.alloc [] w2 (.cells #[.slice a4 n4 c4] 30)))
  clear v4 O1
  have B4 := Lib.hid (Blk.new w2 30 #[.slice a4 n4 c4])
  clear f2 q4
  go_wp2_with fail
  generalize w2.heap.size = b4 at *
  generalize w2.alloc (.cells #[.slice a4 n4 c4] 30) = x4 at *
  refine (O2.out _ F.out).mono ?_
  rintro e' w3 ⟨a5, n5, c5, rfl, v5, f3⟩
  have q5 := f3.trans1 (Frame.alloc [] w3 (.cells #[.slice a5 n5 c5] 30))
  have S3 := Lib.hid (S3.out.frame q5)
  have B4 := Lib.hid (B4.out.frame q5 (by simp))
  have V4 := Lib.hid (V4.out.frame q5)
  have F := Lib.hid (F.out.trans1 q5)
  have V5 := Lib.hid (v5.frame (Frame.alloc [] w3 (.cells #[.slice a5 n5 c5] 30)))
  clear v5 O2
  have B5 := Lib.hid (Blk.new w3 30 #[.slice a5 n5 c5])
  clear f3 q5
  go_wp2_with fail
  generalize w3.heap.size = b5 at *
  generalize w3.alloc (.cells #[.slice a5 n5 c5] 30) = x5 at *
  refine (G1.out _ F.out).mono ?_
  rintro e' w4 ⟨rfl, f4⟩
  have S3 := Lib.hid (S3.out.frame f4)
  have B4 := Lib.hid (B4.out.frame f4 (by simp))
  have V4 := Lib.hid (V4.out.frame f4)
  have B5 := Lib.hid (B5.out.frame f4 (by simp))
  have V5 := Lib.hid (V5.out.frame f4)
  have F := Lib.hid (F.out.trans1 f4)
  clear f4
  go_wp2_with fail
  refine (G2.out _ F.out).mono ?_
  rintro e' w5 ⟨rfl, f5⟩
  have S3 := Lib.hid (S3.out.frame f5)
  have B4 := Lib.hid (B4.out.frame f5 (by simp))
  have V4 := Lib.hid (V4.out.frame f5)
  have B5 := Lib.hid (B5.out.frame f5 (by simp))
  have V5 := Lib.hid (V5.out.frame f5)
  have F := Lib.hid (F.out.trans1 f5)
  clear f5
  go_wp2_with fail
  refine (SA.out _ S3.out).mono ?_
  rintro e' w6 ⟨a10, c10, G10, rfl, s10, f10, -⟩
  have S3 := Lib.hid (S3.out.frame f10)
  have B4 := Lib.hid (B4.out.frame f10 (by simp))
  have V4 := Lib.hid (V4.out.frame f10)
  have B5 := Lib.hid (B5.out.frame f10 (by simp))
  have V5 := Lib.hid (V5.out.frame f10)
  have F := Lib.hid (F.out.trans1 f10)
  have D10 := Lib.hid s10.rdI
  clear s10 f10
  go_wp2_with fail
  refine (SR.out _ S3.out).mono ?_
  rintro e' w7 ⟨a11, c11, G11, rfl, s11, f11, -⟩
  have S3 := Lib.hid (S3.out.frame f11)
  have B4 := Lib.hid (B4.out.frame f11 (by simp))
  have V4 := Lib.hid (V4.out.frame f11)
  have B5 := Lib.hid (B5.out.frame f11 (by simp))
  have V5 := Lib.hid (V5.out.frame f11)
  have D10 := Lib.hid (D10.out.frame f11)
  have F := Lib.hid (F.out.trans1 f11)
  have D11 := Lib.hid s11.rdI
  clear s11 f11
  go_wp2_with fail
  have II := ints_dec a10 a11 c10 c11 (srtI S) (srtI S) _ D10.out D11.out (by have := SL.out; omega) (by have := SL.out; omega)
  rw [decide_eq_true rfl] at II
  have II := Lib.hid II
  refine (II.out).mono ?_
  rintro e' w8 ⟨rfl, f8⟩
  have S3 := Lib.hid (S3.out.frame f8)
  have B4 := Lib.hid (B4.out.frame f8 (by simp))
  have V4 := Lib.hid (V4.out.frame f8)
  have B5 := Lib.hid (B5.out.frame f8 (by simp))
  have V5 := Lib.hid (V5.out.frame f8)
  have D10 := Lib.hid (D10.out.frame f8)
  have D11 := Lib.hid (D11.out.frame f8)
  have F := Lib.hid (F.out.trans1 f8)
  clear f8
  clear D10 D11
  clear II SA SR G1 G2
  go_wp2_with fail
  have LN : Hid (f.length ≤ 12 ∧ g.length ≤ 12 ∧ (plusL f g).length ≤ 24 ∧ (timesL f g).length ≤ 144 ∧ n4 = f.length ∧ n5 = g.length ∧ f.length * g.length ≤ 144) := by
    have i1 := V4.out.le
    have i2 := V5.out.le
    have i3 := plus_len f g
    have i4 := times_len f g
    have i5 : f.length * g.length ≤ 12 * 12 := Nat.mul_le_mul (by omega) (by omega)
    exact ⟨by omega, by omega, by omega, by omega, V4.out.len, V5.out.len, by omega⟩
  refine (LE1.out _ F.out).mono ?_
  rintro e' w9 ⟨ax, cx, xs, rfl, r9, m9, f9⟩
  have S3 := Lib.hid (S3.out.frame f9)
  have B4 := Lib.hid (B4.out.frame f9 (by simp))
  have V4 := Lib.hid (V4.out.frame f9)
  have B5 := Lib.hid (B5.out.frame f9 (by simp))
  have V5 := Lib.hid (V5.out.frame f9)
  have F := Lib.hid (F.out.trans1 f9)
  have RX := Lib.hid r9
  have MX := Lib.hid m9
  clear r9 m9 f9
  go_wp2_with fail
  refine (LE2.out _ F.out).mono ?_
  rintro e' w10 ⟨ay, cy, ys, rfl, r10, m10, f10⟩
  have S3 := Lib.hid (S3.out.frame f10)
  have B4 := Lib.hid (B4.out.frame f10 (by simp))
  have V4 := Lib.hid (V4.out.frame f10)
  have B5 := Lib.hid (B5.out.frame f10 (by simp))
  have V5 := Lib.hid (V5.out.frame f10)
  have RX := Lib.hid (RX.out.frame f10)
  have F := Lib.hid (F.out.trans1 f10)
  have RY := Lib.hid r10
  have MY := Lib.hid m10
  clear r10 m10 f10
  clear LE1 LE2
  have t4 := B4.out.at 0 rfl
  go_wp2_with fail
  clear t4
  refine ((asets_any _ f _ V4.out.v (by have := LN.out; omega)).mono fun _ _ h => h.fresh).mono ?_
  rintro e' w11 ⟨az, cz, zs, rfl, r11, m11, f11⟩
  have S3 := Lib.hid (S3.out.frame f11)
  have B4 := Lib.hid (B4.out.frame f11 (by simp))
  have V4 := Lib.hid (V4.out.frame f11)
  have B5 := Lib.hid (B5.out.frame f11 (by simp))
  have V5 := Lib.hid (V5.out.frame f11)
  have RX := Lib.hid (RX.out.frame f11)
  have RY := Lib.hid (RY.out.frame f11)
  have F := Lib.hid (F.out.trans1 f11)
  have RZ := Lib.hid r11
  have MZ := Lib.hid m11
  clear r11 m11 f11
  go_wp2_with fail
  refine (lists_yes az ax cz cx zs xs f _ RZ.out RX.out MZ.out MX.out (by have := LN.out; omega)).mono ?_
  rintro e' w12 ⟨rfl, f12⟩
  have S3 := Lib.hid (S3.out.frame f12)
  have B4 := Lib.hid (B4.out.frame f12 (by simp))
  have V4 := Lib.hid (V4.out.frame f12)
  have B5 := Lib.hid (B5.out.frame f12 (by simp))
  have V5 := Lib.hid (V5.out.frame f12)
  have RX := Lib.hid (RX.out.frame f12)
  have RY := Lib.hid (RY.out.frame f12)
  have RZ := Lib.hid (RZ.out.frame f12)
  have F := Lib.hid (F.out.trans1 f12)
  clear f12
  clear RZ
  have t4 := B4.out.at 0 rfl
  go_wp2_with fail
  clear t4
  refine (alen_any a4 n4 c4 _).mono ?_
  rintro e' w13 ⟨rfl, f13⟩
  have S3 := Lib.hid (S3.out.frame f13)
  have B4 := Lib.hid (B4.out.frame f13 (by simp))
  have V4 := Lib.hid (V4.out.frame f13)
  have B5 := Lib.hid (B5.out.frame f13 (by simp))
  have V5 := Lib.hid (V5.out.frame f13)
  have RX := Lib.hid (RX.out.frame f13)
  have RY := Lib.hid (RY.out.frame f13)
  have F := Lib.hid (F.out.trans1 f13)
  clear f13
  have hne : ((n4 : Int) != (xs.length : Int)) = false := by
    have j1 := congrArg List.length MX.out
    rw [List.length_map] at j1
    have := LN.out
    rw [bne_eq_false_iff_eq]
    omega
  have t4 := B4.out.at 0 rfl
  go_wp2_with fail
  clear t4
  refine (ahas_any _ f d k S _ V4.out.v V4.out.up (by have := LN.out; omega) S3.out (by omega)).mono ?_
  rintro e' w14 ⟨rfl, f14⟩
  have S3 := Lib.hid (S3.out.frame f14)
  have B4 := Lib.hid (B4.out.frame f14 (by simp))
  have V4 := Lib.hid (V4.out.frame f14)
  have B5 := Lib.hid (B5.out.frame f14 (by simp))
  have V5 := Lib.hid (V5.out.frame f14)
  have RX := Lib.hid (RX.out.frame f14)
  have RY := Lib.hid (RY.out.frame f14)
  have F := Lib.hid (F.out.trans1 f14)
  clear f14
  go_wp2_with fail
  refine (rhas_yes ax d cx k xs S f _ RX.out MX.out (by have := LN.out; omega) S3.out (by omega)).mono ?_
  rintro e' w15 ⟨rfl, f15⟩
  have S3 := Lib.hid (S3.out.frame f15)
  have B4 := Lib.hid (B4.out.frame f15 (by simp))
  have V4 := Lib.hid (V4.out.frame f15)
  have B5 := Lib.hid (B5.out.frame f15 (by simp))
  have V5 := Lib.hid (V5.out.frame f15)
  have RX := Lib.hid (RX.out.frame f15)
  have RY := Lib.hid (RY.out.frame f15)
  have F := Lib.hid (F.out.trans1 f15)
  clear f15
  have hpp : (hasL f S != hasL f S) = false := bne_self_eq_false _
  generalize hasL f S = p at *
  have FF := Lib.hid (Frame.alloc [] w15 (.cells #[] 22))
  have lxy : Hid (xs.length ≤ 12 ∧ ys.length ≤ 12) := by
    have j1 := congrArg List.length MX.out
    have j2 := congrArg List.length MY.out
    rw [List.length_map] at j1 j2
    have := LN.out
    exact ⟨by omega, by omega⟩
  have lx := lxy.out.1
  have ly := lxy.out.2
  go_wp2_with (at_builtin; first
    | (refine wpList_append_rf rfl (.tmp 109) (.tmp 110) 26 rfl 22 1 24 _ encV Try.underlying26 infoInts rfl (by omega) (.slice (some ⟨w15.heap.size, 0, none⟩) 0 0) [] 0 rfl [w15.heap.size] rfl (sl_empty w15 _ _ _) (fun b => b < w15.heap.size) ax xs.length cx xs rfl (RX.out.rf.frame0 FF.out) rfl encV_len encV_one xs.length (by omega) (by omega) (by omega) ?_; intro a20 cap20 w20 G20 sl20 f20 hG20; have E20 := Lib.hid (FF.out.trans f20 (fun x hx => .inr (by simp at hx; omega))); have HG20 : Hid (∀ x ∈ G20, w15.heap.size ≤ x) := (fun x hx => (hG20 x hx).elim (fun h => by simp at h; omega) (fun h => Nat.le_trans FF.out.size h)); have S20 := Lib.hid (show Sl w20 22 1 encV (.slice a20 xs.length cap20) xs G20 from sl20); clear sl20 f20 hG20)
    | (refine wpList_append_rf rfl (.tmp 111) (.tmp 112) 26 rfl 22 1 24 _ encV Try.underlying26 infoInts rfl (by omega) (.slice a20 xs.length cap20) xs xs.length rfl G20 rfl S20.out (fun b => b < w15.heap.size) ay ys.length cy ys rfl (RY.out.rf.frame0 E20.out) rfl encV_len encV_one (xs.length + ys.length) rfl (by omega) (by omega) ?_; intro a21 cap21 w21 G21 sl21 f21 hG21; have E21 := Lib.hid (E20.out.trans f21 (fun x hx => .inr (HG20.out x hx))); have S21 := Lib.hid sl21; clear sl21 f21 hG21))
  have S3 := Lib.hid (S3.out.frame E21.out)
  have B4 := Lib.hid (B4.out.frame E21.out (by simp))
  have V4 := Lib.hid (V4.out.frame E21.out)
  have B5 := Lib.hid (B5.out.frame E21.out (by simp))
  have V5 := Lib.hid (V5.out.frame E21.out)
  have RX := Lib.hid (RX.out.frame E21.out)
  have RY := Lib.hid (RY.out.frame E21.out)
  have F := Lib.hid (F.out.trans1 E21.out)
  have RXY : Hid (RV w21 a21 (xs ++ ys)) := ⟨S21.out.rf encV_len (fun b hb => S21.out.lt b hb), fun s hs => by
    rcases List.mem_append.1 hs with h | h
    · exact RX.out.ok s h
    · exact RY.out.ok s h⟩
  have LP := rleast_any a21 cap21 (xs ++ ys) w21 RXY.out (by rw [List.length_append]; omega)
  rw [List.length_append, List.map_append, MX.out, MY.out] at LP
  have LP : Hid (Calls Try.prog 28 #[.slice a21 (xs.length + ys.length) cap21] w21 (RowEnd (plusL f g) w21)) := LP.mono fun _ _ h => h.fresh
  clear S20 HG20 S21 E20 E21 FF RXY
  refine (LP.out).mono ?_
  rintro e' w16 ⟨ap, cp, ps, rfl, r16, m16, f16⟩
  have S3 := Lib.hid (S3.out.frame f16)
  have B4 := Lib.hid (B4.out.frame f16 (by simp))
  have V4 := Lib.hid (V4.out.frame f16)
  have B5 := Lib.hid (B5.out.frame f16 (by simp))
  have V5 := Lib.hid (V5.out.frame f16)
  have RX := Lib.hid (RX.out.frame f16)
  have RY := Lib.hid (RY.out.frame f16)
  have F := Lib.hid (F.out.trans1 f16)
  have RP := Lib.hid r16
  have MP := Lib.hid m16
  clear r16 m16 f16
  clear LP
  go_wp2_with fail
  have LU := runions_any ax ay cx cy xs ys _ ⟨RX.out, RY.out, fun s hs => by
    have := sh1.out s.l (by rw [← MX.out]; exact List.mem_map_of_mem hs)
    omega, fun s hs => by
    have := sh2.out s.l (by rw [← MY.out]; exact List.mem_map_of_mem hs)
    omega, by have := Nat.mul_le_mul lx ly; omega⟩ (by omega) (by omega)
  rw [MX.out, MY.out] at LU
  have LU : Hid (Calls Try.prog 30 #[.slice ax xs.length cx, .slice ay ys.length cy] _ (RowEnd (timesL f g) _)) := LU.mono fun _ _ h => h.fresh
  refine (LU.out).mono ?_
  rintro e' w17 ⟨at_, ct, ts, rfl, r17, m17, f17⟩
  have S3 := Lib.hid (S3.out.frame f17)
  have B4 := Lib.hid (B4.out.frame f17 (by simp))
  have V4 := Lib.hid (V4.out.frame f17)
  have B5 := Lib.hid (B5.out.frame f17 (by simp))
  have V5 := Lib.hid (V5.out.frame f17)
  have RX := Lib.hid (RX.out.frame f17)
  have RY := Lib.hid (RY.out.frame f17)
  have RP := Lib.hid (RP.out.frame f17)
  have F := Lib.hid (F.out.trans1 f17)
  have RT := Lib.hid r17
  have MT := Lib.hid m17
  clear r17 m17 f17
  clear LU
  clear RX RY
  have t4 := B4.out.at 0 rfl
  have t5 := B5.out.at 0 rfl
  go_wp2_with fail
  clear t4 t5
  refine (plus_new V4.out V5.out (by omega) z HP.out).mono ?_
  rintro e' w18 ⟨a6, c6, rfl, v6, f18⟩
  have q6 := f18.trans1 (Frame.alloc [] w18 (.cells #[.slice a6 (plusL f g).length c6] 30))
  have S3 := Lib.hid (S3.out.frame q6)
  have B4 := Lib.hid (B4.out.frame q6 (by simp))
  have V4 := Lib.hid (V4.out.frame q6)
  have B5 := Lib.hid (B5.out.frame q6 (by simp))
  have V5 := Lib.hid (V5.out.frame q6)
  have RP := Lib.hid (RP.out.frame q6)
  have RT := Lib.hid (RT.out.frame q6)
  have F := Lib.hid (F.out.trans1 q6)
  have V6 := Lib.hid (v6.fam.frame (Frame.alloc [] w18 (.cells #[.slice a6 (plusL f g).length c6] 30)))
  clear v6
  have B6 := Lib.hid (Blk.new w18 30 #[.slice a6 (plusL f g).length c6])
  clear f18 q6
  have t4 := B4.out.at 0 rfl
  have t5 := B5.out.at 0 rfl
  go_wp2_with fail
  clear t4 t5
  generalize w18.heap.size = b6 at *
  generalize w18.alloc (.cells #[.slice a6 (plusL f g).length c6] 30) = x6 at *
  refine (times_new V4.out V5.out (by have := Nat.mul_le_mul p1 p2; omega) (by omega) (by omega) (by omega) (by omega) z HT.out).mono ?_
  rintro e' w19 ⟨a7, c7, rfl, v7, f19⟩
  have q7 := f19.trans1 (Frame.alloc [] w19 (.cells #[.slice a7 (timesL f g).length c7] 30))
  have S3 := Lib.hid (S3.out.frame q7)
  have B4 := Lib.hid (B4.out.frame q7 (by simp))
  have V4 := Lib.hid (V4.out.frame q7)
  have B5 := Lib.hid (B5.out.frame q7 (by simp))
  have V5 := Lib.hid (V5.out.frame q7)
  have RP := Lib.hid (RP.out.frame q7)
  have RT := Lib.hid (RT.out.frame q7)
  have B6 := Lib.hid (B6.out.frame q7 (by simp))
  have V6 := Lib.hid (V6.out.frame q7)
  have F := Lib.hid (F.out.trans1 q7)
  have V7 := Lib.hid (v7.fam.frame (Frame.alloc [] w19 (.cells #[.slice a7 (timesL f g).length c7] 30)))
  clear v7
  have B7 := Lib.hid (Blk.new w19 30 #[.slice a7 (timesL f g).length c7])
  clear f19 q7
  go_wp2_with fail
  generalize w19.heap.size = b7 at *
  generalize w19.alloc (.cells #[.slice a7 (timesL f g).length c7] 30) = x7 at *
  clear V4 V5 B4 B5 S3
  have OV := rover_any ap ps.length cp z
  rw [show overB ps.length z = false from by
    have j1 := congrArg List.length MP.out
    rw [List.length_map] at j1
    rw [j1]
    exact over_no HP.out (by have := LN.out; omega)] at OV
  have OV := Lib.hid OV
  refine (OV.out _).mono ?_
  rintro e' w20 ⟨rfl, f20⟩
  have RP := Lib.hid (RP.out.frame f20)
  have RT := Lib.hid (RT.out.frame f20)
  have B6 := Lib.hid (B6.out.frame f20 (by simp))
  have V6 := Lib.hid (V6.out.frame f20)
  have B7 := Lib.hid (B7.out.frame f20 (by simp))
  have V7 := Lib.hid (V7.out.frame f20)
  have F := Lib.hid (F.out.trans1 f20)
  clear f20
  clear OV
  have t6 := B6.out.at 0 rfl
  go_wp2_with fail
  clear t6
  refine ((asets_any _ (plusL f g) _ V6.out.v (by have := LN.out; omega)).mono fun _ _ h => h.fresh).mono ?_
  rintro e' w21 ⟨aq, cq, qs, rfl, r21, m21, f21⟩
  have RP := Lib.hid (RP.out.frame f21)
  have RT := Lib.hid (RT.out.frame f21)
  have B6 := Lib.hid (B6.out.frame f21 (by simp))
  have V6 := Lib.hid (V6.out.frame f21)
  have B7 := Lib.hid (B7.out.frame f21 (by simp))
  have V7 := Lib.hid (V7.out.frame f21)
  have F := Lib.hid (F.out.trans1 f21)
  have RQ := Lib.hid r21
  have MQ := Lib.hid m21
  clear r21 m21 f21
  go_wp2_with fail
  refine (lists_yes aq ap cq cp qs ps (plusL f g) _ RQ.out RP.out MQ.out MP.out (by have := LN.out; omega)).mono ?_
  rintro e' w22 ⟨rfl, f22⟩
  have RP := Lib.hid (RP.out.frame f22)
  have RT := Lib.hid (RT.out.frame f22)
  have B6 := Lib.hid (B6.out.frame f22 (by simp))
  have V6 := Lib.hid (V6.out.frame f22)
  have B7 := Lib.hid (B7.out.frame f22 (by simp))
  have V7 := Lib.hid (V7.out.frame f22)
  have RQ := Lib.hid (RQ.out.frame f22)
  have F := Lib.hid (F.out.trans1 f22)
  clear f22
  clear RQ
  go_wp2_with fail
  have OV := rover_any at_ ts.length ct z
  rw [show overB ts.length z = false from by
    have j1 := congrArg List.length MT.out
    rw [List.length_map] at j1
    rw [j1]
    exact over_no HT.out (by have := LN.out; omega)] at OV
  have OV := Lib.hid OV
  refine (OV.out _).mono ?_
  rintro e' w23 ⟨rfl, f23⟩
  have RP := Lib.hid (RP.out.frame f23)
  have RT := Lib.hid (RT.out.frame f23)
  have B6 := Lib.hid (B6.out.frame f23 (by simp))
  have V6 := Lib.hid (V6.out.frame f23)
  have B7 := Lib.hid (B7.out.frame f23 (by simp))
  have V7 := Lib.hid (V7.out.frame f23)
  have F := Lib.hid (F.out.trans1 f23)
  clear f23
  clear OV
  have t7 := B7.out.at 0 rfl
  go_wp2_with fail
  clear t7
  refine ((asets_any _ (timesL f g) _ V7.out.v (by have := LN.out; omega)).mono fun _ _ h => h.fresh).mono ?_
  rintro e' w24 ⟨au, cu, ws, rfl, r24, m24, f24⟩
  have RP := Lib.hid (RP.out.frame f24)
  have RT := Lib.hid (RT.out.frame f24)
  have B6 := Lib.hid (B6.out.frame f24 (by simp))
  have V6 := Lib.hid (V6.out.frame f24)
  have B7 := Lib.hid (B7.out.frame f24 (by simp))
  have V7 := Lib.hid (V7.out.frame f24)
  have F := Lib.hid (F.out.trans1 f24)
  have RW := Lib.hid r24
  have MW := Lib.hid m24
  clear r24 m24 f24
  go_wp2_with fail
  refine (lists_yes au at_ cu ct ws ts (timesL f g) _ RW.out RT.out MW.out MT.out (by have := LN.out; omega)).mono ?_
  rintro e' w25 ⟨rfl, f25⟩
  have RP := Lib.hid (RP.out.frame f25)
  have RT := Lib.hid (RT.out.frame f25)
  have B6 := Lib.hid (B6.out.frame f25 (by simp))
  have V6 := Lib.hid (V6.out.frame f25)
  have B7 := Lib.hid (B7.out.frame f25 (by simp))
  have V7 := Lib.hid (V7.out.frame f25)
  have RW := Lib.hid (RW.out.frame f25)
  have F := Lib.hid (F.out.trans1 f25)
  clear f25
  clear RW
  go_wp2_with fail
  refine (awake5 _).mono ?_
  rintro e' wz ⟨rfl, fz⟩
  go_wp2_with fail
  go_ret
  exact ⟨rfl, F.out.trans1 fz⟩
set_option maxHeartbeats 8000000 in
set_option maxRecDepth 100000 in
theorem antiAsks_in_ok_over (a b d : Option Addr) (c e k : Nat) (vs us : List SV) (S : List Int) (z : Int) (w : World) (h1 : Arg5 w a vs) (h2 : Arg5 w b us) (h3 : RdI w d S) (hs : SmallW [⟨a, c, vs⟩, ⟨b, e, us⟩]) (g1 : goodL (vs.map (·.l)) = true) (g2 : goodL (us.map (·.l)) = true) (hl : S.length ≤ 100) (hp : ((plusL (leastR (vs.map (·.l))) (leastR (us.map (·.l)))).length : Int) ≤ z) (ht : z < ((timesL (leastR (vs.map (·.l))) (leastR (us.map (·.l)))).length : Int)) :
    Calls Try.prog 7 #[.slice a vs.length c, .slice b us.length e, .slice d S.length k, .int .i64 z] w fun e' w' => e' = .returned (.bool true) ∧ Frame [] w w' := by
  have SS := small_two a b c e vs us w h1 h2
  rw [decide_eq_true hs] at SS
  have HS := Lib.hid SS
  obtain ⟨⟨p1, l1⟩, p2, l2⟩ := small_parts2 hs
  have R1 := h1.rv l1
  have R2 := h2.rv l2
  have S3 := Lib.hid h3
  have hd : decide ((S.length : Int) > 100) = false := decide_eq_false (by omega)
  have SA : Hid (∀ w', RdI w' d S → Calls Try.prog 10 #[.slice d S.length k] w' (FreshEnd 3 1 encI (srtI S) w')) := fun w' h => asorted_any d k S w' h (by omega)
  have SR : Hid (∀ w', RdI w' d S → Calls Try.prog 27 #[.slice d S.length k] w' (FreshEnd 3 1 encI (srtI S) w')) := fun w' h => rsortI_any _ d k S w' h.rfT (by omega)
  have SL : Hid ((srtI S).length ≤ 100) := Nat.le_trans (srtI_len S) hl
  have G1 : Hid (∀ w', Frame [] w w' → Calls Try.prog 14 #[.slice a vs.length c] w' fun e' w'' => e' = .returned (.bool true) ∧ Frame [] w' w'') := fun w' f => by
    have := good_any a c vs w' (R1.frame f) (by omega)
    rwa [g1] at this
  have G2 : Hid (∀ w', Frame [] w w' → Calls Try.prog 14 #[.slice b us.length e] w' fun e' w'' => e' = .returned (.bool true) ∧ Frame [] w' w'') := fun w' f => by
    have := good_any b e us w' (R2.frame f) (by omega)
    rwa [g2] at this
  have O1 : Hid (∀ w', Frame [] w w' → Calls Try.prog 15 #[.slice a vs.length c] w' (OfEnd (leastR (vs.map (·.l))) vs.length 12 w')) := fun w' f => of_good a c vs w' (R1.frame f) p1 l1 g1
  have O2 : Hid (∀ w', Frame [] w w' → Calls Try.prog 15 #[.slice b us.length e] w' (OfEnd (leastR (us.map (·.l))) us.length 12 w')) := fun w' f => of_good b e us w' (R2.frame f) p2 l2 g2
  have LE1 : Hid (∀ w', Frame [] w w' → Calls Try.prog 28 #[.slice a vs.length c] w' (RowEnd (leastR (vs.map (·.l))) w')) := fun w' f => (rleast_any a c vs w' (R1.frame f) (by omega)).mono fun _ _ h => h.fresh
  have LE2 : Hid (∀ w', Frame [] w w' → Calls Try.prog 28 #[.slice b us.length e] w' (RowEnd (leastR (us.map (·.l))) w')) := fun w' f => (rleast_any b e us w' (R2.frame f) (by omega)).mono fun _ _ h => h.fresh
  have HP := Lib.hid hp
  have HT := Lib.hid ht
  have sh1 : Hid (∀ s ∈ leastR (vs.map (·.l)), s.length ≤ 12) := least_short fun t ht => by obtain ⟨y, hy, rfl⟩ := List.mem_map.1 ht; exact l1 y hy
  have sh2 : Hid (∀ s ∈ leastR (us.map (·.l)), s.length ≤ 12) := least_short fun t ht => by obtain ⟨y, hy, rfl⟩ := List.mem_map.1 ht; exact l2 y hy
  generalize leastR (vs.map (·.l)) = f at *
  generalize leastR (us.map (·.l)) = g at *
  clear SS h1 h2 h3 hs g1 g2 l1 l2 R1 R2 hp ht
  go_enter Try.func7, Try.ntmps7
  go_wp2_with fail
  refine HS.out.mono ?_
  rintro e' w1 ⟨rfl, f1⟩
  have F := Lib.hid f1
  clear f1 HS
  go_wp2_with fail
  have S3 := Lib.hid (S3.out.frame F.out)
  refine (O1.out _ F.out).mono ?_
  rintro e' w2 ⟨a4, n4, c4, rfl, v4, f2⟩
  have q4 := f2.trans1 (Frame.alloc [] w2 (.cells #[.slice a4 n4 c4] 30))
  have S3 := Lib.hid (S3.out.frame q4)
  have F := Lib.hid (F.out.trans1 q4)
  have V4 := Lib.hid (v4.frame (Frame.alloc [] w2 (.cells #[.slice a4 n4 c4] 30)))
  clear v4 O1
  have B4 := Lib.hid (Blk.new w2 30 #[.slice a4 n4 c4])
  clear f2 q4
  go_wp2_with fail
  generalize w2.heap.size = b4 at *
  generalize w2.alloc (.cells #[.slice a4 n4 c4] 30) = x4 at *
  refine (O2.out _ F.out).mono ?_
  rintro e' w3 ⟨a5, n5, c5, rfl, v5, f3⟩
  have q5 := f3.trans1 (Frame.alloc [] w3 (.cells #[.slice a5 n5 c5] 30))
  have S3 := Lib.hid (S3.out.frame q5)
  have B4 := Lib.hid (B4.out.frame q5 (by simp))
  have V4 := Lib.hid (V4.out.frame q5)
  have F := Lib.hid (F.out.trans1 q5)
  have V5 := Lib.hid (v5.frame (Frame.alloc [] w3 (.cells #[.slice a5 n5 c5] 30)))
  clear v5 O2
  have B5 := Lib.hid (Blk.new w3 30 #[.slice a5 n5 c5])
  clear f3 q5
  go_wp2_with fail
  generalize w3.heap.size = b5 at *
  generalize w3.alloc (.cells #[.slice a5 n5 c5] 30) = x5 at *
  refine (G1.out _ F.out).mono ?_
  rintro e' w4 ⟨rfl, f4⟩
  have S3 := Lib.hid (S3.out.frame f4)
  have B4 := Lib.hid (B4.out.frame f4 (by simp))
  have V4 := Lib.hid (V4.out.frame f4)
  have B5 := Lib.hid (B5.out.frame f4 (by simp))
  have V5 := Lib.hid (V5.out.frame f4)
  have F := Lib.hid (F.out.trans1 f4)
  clear f4
  go_wp2_with fail
  refine (G2.out _ F.out).mono ?_
  rintro e' w5 ⟨rfl, f5⟩
  have S3 := Lib.hid (S3.out.frame f5)
  have B4 := Lib.hid (B4.out.frame f5 (by simp))
  have V4 := Lib.hid (V4.out.frame f5)
  have B5 := Lib.hid (B5.out.frame f5 (by simp))
  have V5 := Lib.hid (V5.out.frame f5)
  have F := Lib.hid (F.out.trans1 f5)
  clear f5
  go_wp2_with fail
  refine (SA.out _ S3.out).mono ?_
  rintro e' w6 ⟨a10, c10, G10, rfl, s10, f10, -⟩
  have S3 := Lib.hid (S3.out.frame f10)
  have B4 := Lib.hid (B4.out.frame f10 (by simp))
  have V4 := Lib.hid (V4.out.frame f10)
  have B5 := Lib.hid (B5.out.frame f10 (by simp))
  have V5 := Lib.hid (V5.out.frame f10)
  have F := Lib.hid (F.out.trans1 f10)
  have D10 := Lib.hid s10.rdI
  clear s10 f10
  go_wp2_with fail
  refine (SR.out _ S3.out).mono ?_
  rintro e' w7 ⟨a11, c11, G11, rfl, s11, f11, -⟩
  have S3 := Lib.hid (S3.out.frame f11)
  have B4 := Lib.hid (B4.out.frame f11 (by simp))
  have V4 := Lib.hid (V4.out.frame f11)
  have B5 := Lib.hid (B5.out.frame f11 (by simp))
  have V5 := Lib.hid (V5.out.frame f11)
  have D10 := Lib.hid (D10.out.frame f11)
  have F := Lib.hid (F.out.trans1 f11)
  have D11 := Lib.hid s11.rdI
  clear s11 f11
  go_wp2_with fail
  have II := ints_dec a10 a11 c10 c11 (srtI S) (srtI S) _ D10.out D11.out (by have := SL.out; omega) (by have := SL.out; omega)
  rw [decide_eq_true rfl] at II
  have II := Lib.hid II
  refine (II.out).mono ?_
  rintro e' w8 ⟨rfl, f8⟩
  have S3 := Lib.hid (S3.out.frame f8)
  have B4 := Lib.hid (B4.out.frame f8 (by simp))
  have V4 := Lib.hid (V4.out.frame f8)
  have B5 := Lib.hid (B5.out.frame f8 (by simp))
  have V5 := Lib.hid (V5.out.frame f8)
  have D10 := Lib.hid (D10.out.frame f8)
  have D11 := Lib.hid (D11.out.frame f8)
  have F := Lib.hid (F.out.trans1 f8)
  clear f8
  clear D10 D11
  clear II SA SR G1 G2
  go_wp2_with fail
  have LN : Hid (f.length ≤ 12 ∧ g.length ≤ 12 ∧ (plusL f g).length ≤ 24 ∧ (timesL f g).length ≤ 144 ∧ n4 = f.length ∧ n5 = g.length ∧ f.length * g.length ≤ 144) := by
    have i1 := V4.out.le
    have i2 := V5.out.le
    have i3 := plus_len f g
    have i4 := times_len f g
    have i5 : f.length * g.length ≤ 12 * 12 := Nat.mul_le_mul (by omega) (by omega)
    exact ⟨by omega, by omega, by omega, by omega, V4.out.len, V5.out.len, by omega⟩
  refine (LE1.out _ F.out).mono ?_
  rintro e' w9 ⟨ax, cx, xs, rfl, r9, m9, f9⟩
  have S3 := Lib.hid (S3.out.frame f9)
  have B4 := Lib.hid (B4.out.frame f9 (by simp))
  have V4 := Lib.hid (V4.out.frame f9)
  have B5 := Lib.hid (B5.out.frame f9 (by simp))
  have V5 := Lib.hid (V5.out.frame f9)
  have F := Lib.hid (F.out.trans1 f9)
  have RX := Lib.hid r9
  have MX := Lib.hid m9
  clear r9 m9 f9
  go_wp2_with fail
  refine (LE2.out _ F.out).mono ?_
  rintro e' w10 ⟨ay, cy, ys, rfl, r10, m10, f10⟩
  have S3 := Lib.hid (S3.out.frame f10)
  have B4 := Lib.hid (B4.out.frame f10 (by simp))
  have V4 := Lib.hid (V4.out.frame f10)
  have B5 := Lib.hid (B5.out.frame f10 (by simp))
  have V5 := Lib.hid (V5.out.frame f10)
  have RX := Lib.hid (RX.out.frame f10)
  have F := Lib.hid (F.out.trans1 f10)
  have RY := Lib.hid r10
  have MY := Lib.hid m10
  clear r10 m10 f10
  clear LE1 LE2
  have t4 := B4.out.at 0 rfl
  go_wp2_with fail
  clear t4
  refine ((asets_any _ f _ V4.out.v (by have := LN.out; omega)).mono fun _ _ h => h.fresh).mono ?_
  rintro e' w11 ⟨az, cz, zs, rfl, r11, m11, f11⟩
  have S3 := Lib.hid (S3.out.frame f11)
  have B4 := Lib.hid (B4.out.frame f11 (by simp))
  have V4 := Lib.hid (V4.out.frame f11)
  have B5 := Lib.hid (B5.out.frame f11 (by simp))
  have V5 := Lib.hid (V5.out.frame f11)
  have RX := Lib.hid (RX.out.frame f11)
  have RY := Lib.hid (RY.out.frame f11)
  have F := Lib.hid (F.out.trans1 f11)
  have RZ := Lib.hid r11
  have MZ := Lib.hid m11
  clear r11 m11 f11
  go_wp2_with fail
  refine (lists_yes az ax cz cx zs xs f _ RZ.out RX.out MZ.out MX.out (by have := LN.out; omega)).mono ?_
  rintro e' w12 ⟨rfl, f12⟩
  have S3 := Lib.hid (S3.out.frame f12)
  have B4 := Lib.hid (B4.out.frame f12 (by simp))
  have V4 := Lib.hid (V4.out.frame f12)
  have B5 := Lib.hid (B5.out.frame f12 (by simp))
  have V5 := Lib.hid (V5.out.frame f12)
  have RX := Lib.hid (RX.out.frame f12)
  have RY := Lib.hid (RY.out.frame f12)
  have RZ := Lib.hid (RZ.out.frame f12)
  have F := Lib.hid (F.out.trans1 f12)
  clear f12
  clear RZ
  have t4 := B4.out.at 0 rfl
  go_wp2_with fail
  clear t4
  refine (alen_any a4 n4 c4 _).mono ?_
  rintro e' w13 ⟨rfl, f13⟩
  have S3 := Lib.hid (S3.out.frame f13)
  have B4 := Lib.hid (B4.out.frame f13 (by simp))
  have V4 := Lib.hid (V4.out.frame f13)
  have B5 := Lib.hid (B5.out.frame f13 (by simp))
  have V5 := Lib.hid (V5.out.frame f13)
  have RX := Lib.hid (RX.out.frame f13)
  have RY := Lib.hid (RY.out.frame f13)
  have F := Lib.hid (F.out.trans1 f13)
  clear f13
  have hne : ((n4 : Int) != (xs.length : Int)) = false := by
    have j1 := congrArg List.length MX.out
    rw [List.length_map] at j1
    have := LN.out
    rw [bne_eq_false_iff_eq]
    omega
  have t4 := B4.out.at 0 rfl
  go_wp2_with fail
  clear t4
  refine (ahas_any _ f d k S _ V4.out.v V4.out.up (by have := LN.out; omega) S3.out (by omega)).mono ?_
  rintro e' w14 ⟨rfl, f14⟩
  have S3 := Lib.hid (S3.out.frame f14)
  have B4 := Lib.hid (B4.out.frame f14 (by simp))
  have V4 := Lib.hid (V4.out.frame f14)
  have B5 := Lib.hid (B5.out.frame f14 (by simp))
  have V5 := Lib.hid (V5.out.frame f14)
  have RX := Lib.hid (RX.out.frame f14)
  have RY := Lib.hid (RY.out.frame f14)
  have F := Lib.hid (F.out.trans1 f14)
  clear f14
  go_wp2_with fail
  refine (rhas_yes ax d cx k xs S f _ RX.out MX.out (by have := LN.out; omega) S3.out (by omega)).mono ?_
  rintro e' w15 ⟨rfl, f15⟩
  have S3 := Lib.hid (S3.out.frame f15)
  have B4 := Lib.hid (B4.out.frame f15 (by simp))
  have V4 := Lib.hid (V4.out.frame f15)
  have B5 := Lib.hid (B5.out.frame f15 (by simp))
  have V5 := Lib.hid (V5.out.frame f15)
  have RX := Lib.hid (RX.out.frame f15)
  have RY := Lib.hid (RY.out.frame f15)
  have F := Lib.hid (F.out.trans1 f15)
  clear f15
  have hpp : (hasL f S != hasL f S) = false := bne_self_eq_false _
  generalize hasL f S = p at *
  have FF := Lib.hid (Frame.alloc [] w15 (.cells #[] 22))
  have lxy : Hid (xs.length ≤ 12 ∧ ys.length ≤ 12) := by
    have j1 := congrArg List.length MX.out
    have j2 := congrArg List.length MY.out
    rw [List.length_map] at j1 j2
    have := LN.out
    exact ⟨by omega, by omega⟩
  have lx := lxy.out.1
  have ly := lxy.out.2
  go_wp2_with (at_builtin; first
    | (refine wpList_append_rf rfl (.tmp 109) (.tmp 110) 26 rfl 22 1 24 _ encV Try.underlying26 infoInts rfl (by omega) (.slice (some ⟨w15.heap.size, 0, none⟩) 0 0) [] 0 rfl [w15.heap.size] rfl (sl_empty w15 _ _ _) (fun b => b < w15.heap.size) ax xs.length cx xs rfl (RX.out.rf.frame0 FF.out) rfl encV_len encV_one xs.length (by omega) (by omega) (by omega) ?_; intro a20 cap20 w20 G20 sl20 f20 hG20; have E20 := Lib.hid (FF.out.trans f20 (fun x hx => .inr (by simp at hx; omega))); have HG20 : Hid (∀ x ∈ G20, w15.heap.size ≤ x) := (fun x hx => (hG20 x hx).elim (fun h => by simp at h; omega) (fun h => Nat.le_trans FF.out.size h)); have S20 := Lib.hid (show Sl w20 22 1 encV (.slice a20 xs.length cap20) xs G20 from sl20); clear sl20 f20 hG20)
    | (refine wpList_append_rf rfl (.tmp 111) (.tmp 112) 26 rfl 22 1 24 _ encV Try.underlying26 infoInts rfl (by omega) (.slice a20 xs.length cap20) xs xs.length rfl G20 rfl S20.out (fun b => b < w15.heap.size) ay ys.length cy ys rfl (RY.out.rf.frame0 E20.out) rfl encV_len encV_one (xs.length + ys.length) rfl (by omega) (by omega) ?_; intro a21 cap21 w21 G21 sl21 f21 hG21; have E21 := Lib.hid (E20.out.trans f21 (fun x hx => .inr (HG20.out x hx))); have S21 := Lib.hid sl21; clear sl21 f21 hG21))
  have S3 := Lib.hid (S3.out.frame E21.out)
  have B4 := Lib.hid (B4.out.frame E21.out (by simp))
  have V4 := Lib.hid (V4.out.frame E21.out)
  have B5 := Lib.hid (B5.out.frame E21.out (by simp))
  have V5 := Lib.hid (V5.out.frame E21.out)
  have RX := Lib.hid (RX.out.frame E21.out)
  have RY := Lib.hid (RY.out.frame E21.out)
  have F := Lib.hid (F.out.trans1 E21.out)
  have RXY : Hid (RV w21 a21 (xs ++ ys)) := ⟨S21.out.rf encV_len (fun b hb => S21.out.lt b hb), fun s hs => by
    rcases List.mem_append.1 hs with h | h
    · exact RX.out.ok s h
    · exact RY.out.ok s h⟩
  have LP := rleast_any a21 cap21 (xs ++ ys) w21 RXY.out (by rw [List.length_append]; omega)
  rw [List.length_append, List.map_append, MX.out, MY.out] at LP
  have LP : Hid (Calls Try.prog 28 #[.slice a21 (xs.length + ys.length) cap21] w21 (RowEnd (plusL f g) w21)) := LP.mono fun _ _ h => h.fresh
  clear S20 HG20 S21 E20 E21 FF RXY
  refine (LP.out).mono ?_
  rintro e' w16 ⟨ap, cp, ps, rfl, r16, m16, f16⟩
  have S3 := Lib.hid (S3.out.frame f16)
  have B4 := Lib.hid (B4.out.frame f16 (by simp))
  have V4 := Lib.hid (V4.out.frame f16)
  have B5 := Lib.hid (B5.out.frame f16 (by simp))
  have V5 := Lib.hid (V5.out.frame f16)
  have RX := Lib.hid (RX.out.frame f16)
  have RY := Lib.hid (RY.out.frame f16)
  have F := Lib.hid (F.out.trans1 f16)
  have RP := Lib.hid r16
  have MP := Lib.hid m16
  clear r16 m16 f16
  clear LP
  go_wp2_with fail
  have LU := runions_any ax ay cx cy xs ys _ ⟨RX.out, RY.out, fun s hs => by
    have := sh1.out s.l (by rw [← MX.out]; exact List.mem_map_of_mem hs)
    omega, fun s hs => by
    have := sh2.out s.l (by rw [← MY.out]; exact List.mem_map_of_mem hs)
    omega, by have := Nat.mul_le_mul lx ly; omega⟩ (by omega) (by omega)
  rw [MX.out, MY.out] at LU
  have LU : Hid (Calls Try.prog 30 #[.slice ax xs.length cx, .slice ay ys.length cy] _ (RowEnd (timesL f g) _)) := LU.mono fun _ _ h => h.fresh
  refine (LU.out).mono ?_
  rintro e' w17 ⟨at_, ct, ts, rfl, r17, m17, f17⟩
  have S3 := Lib.hid (S3.out.frame f17)
  have B4 := Lib.hid (B4.out.frame f17 (by simp))
  have V4 := Lib.hid (V4.out.frame f17)
  have B5 := Lib.hid (B5.out.frame f17 (by simp))
  have V5 := Lib.hid (V5.out.frame f17)
  have RX := Lib.hid (RX.out.frame f17)
  have RY := Lib.hid (RY.out.frame f17)
  have RP := Lib.hid (RP.out.frame f17)
  have F := Lib.hid (F.out.trans1 f17)
  have RT := Lib.hid r17
  have MT := Lib.hid m17
  clear r17 m17 f17
  clear LU
  clear RX RY
  have t4 := B4.out.at 0 rfl
  have t5 := B5.out.at 0 rfl
  go_wp2_with fail
  clear t4 t5
  refine (plus_new V4.out V5.out (by omega) z HP.out).mono ?_
  rintro e' w18 ⟨a6, c6, rfl, v6, f18⟩
  have q6 := f18.trans1 (Frame.alloc [] w18 (.cells #[.slice a6 (plusL f g).length c6] 30))
  have S3 := Lib.hid (S3.out.frame q6)
  have B4 := Lib.hid (B4.out.frame q6 (by simp))
  have V4 := Lib.hid (V4.out.frame q6)
  have B5 := Lib.hid (B5.out.frame q6 (by simp))
  have V5 := Lib.hid (V5.out.frame q6)
  have RP := Lib.hid (RP.out.frame q6)
  have RT := Lib.hid (RT.out.frame q6)
  have F := Lib.hid (F.out.trans1 q6)
  have V6 := Lib.hid (v6.fam.frame (Frame.alloc [] w18 (.cells #[.slice a6 (plusL f g).length c6] 30)))
  clear v6
  have B6 := Lib.hid (Blk.new w18 30 #[.slice a6 (plusL f g).length c6])
  clear f18 q6
  have t4 := B4.out.at 0 rfl
  have t5 := B5.out.at 0 rfl
  go_wp2_with fail
  clear t4 t5
  generalize w18.heap.size = b6 at *
  generalize w18.alloc (.cells #[.slice a6 (plusL f g).length c6] 30) = x6 at *
  refine (times_over V4.out V5.out (by have := Nat.mul_le_mul p1 p2; omega) (by omega) (by omega) (by omega) (by omega) z HT.out).mono ?_
  rintro e' w19 ⟨rfl, f19⟩
  have q7 := f19.trans1 (Frame.alloc [] w19 (.cells #[.slice none 0 0] 30))
  have S3 := Lib.hid (S3.out.frame q7)
  have B4 := Lib.hid (B4.out.frame q7 (by simp))
  have V4 := Lib.hid (V4.out.frame q7)
  have B5 := Lib.hid (B5.out.frame q7 (by simp))
  have V5 := Lib.hid (V5.out.frame q7)
  have RP := Lib.hid (RP.out.frame q7)
  have RT := Lib.hid (RT.out.frame q7)
  have B6 := Lib.hid (B6.out.frame q7 (by simp))
  have V6 := Lib.hid (V6.out.frame q7)
  have F := Lib.hid (F.out.trans1 q7)
  have B7 := Lib.hid (Blk.new w19 30 #[.slice none 0 0])
  clear f19 q7
  go_wp2_with fail
  generalize w19.heap.size = b7 at *
  generalize w19.alloc (.cells #[.slice none 0 0] 30) = x7 at *
  clear V4 V5 B4 B5 S3
  have OV := rover_any ap ps.length cp z
  rw [show overB ps.length z = false from by
    have j1 := congrArg List.length MP.out
    rw [List.length_map] at j1
    rw [j1]
    exact over_no HP.out (by have := LN.out; omega)] at OV
  have OV := Lib.hid OV
  refine (OV.out _).mono ?_
  rintro e' w20 ⟨rfl, f20⟩
  have RP := Lib.hid (RP.out.frame f20)
  have RT := Lib.hid (RT.out.frame f20)
  have B6 := Lib.hid (B6.out.frame f20 (by simp))
  have V6 := Lib.hid (V6.out.frame f20)
  have B7 := Lib.hid (B7.out.frame f20 (by simp))
  have F := Lib.hid (F.out.trans1 f20)
  clear f20
  clear OV
  have t6 := B6.out.at 0 rfl
  go_wp2_with fail
  clear t6
  refine ((asets_any _ (plusL f g) _ V6.out.v (by have := LN.out; omega)).mono fun _ _ h => h.fresh).mono ?_
  rintro e' w21 ⟨aq, cq, qs, rfl, r21, m21, f21⟩
  have RP := Lib.hid (RP.out.frame f21)
  have RT := Lib.hid (RT.out.frame f21)
  have B6 := Lib.hid (B6.out.frame f21 (by simp))
  have V6 := Lib.hid (V6.out.frame f21)
  have B7 := Lib.hid (B7.out.frame f21 (by simp))
  have F := Lib.hid (F.out.trans1 f21)
  have RQ := Lib.hid r21
  have MQ := Lib.hid m21
  clear r21 m21 f21
  go_wp2_with fail
  refine (lists_yes aq ap cq cp qs ps (plusL f g) _ RQ.out RP.out MQ.out MP.out (by have := LN.out; omega)).mono ?_
  rintro e' w22 ⟨rfl, f22⟩
  have RP := Lib.hid (RP.out.frame f22)
  have RT := Lib.hid (RT.out.frame f22)
  have B6 := Lib.hid (B6.out.frame f22 (by simp))
  have V6 := Lib.hid (V6.out.frame f22)
  have B7 := Lib.hid (B7.out.frame f22 (by simp))
  have RQ := Lib.hid (RQ.out.frame f22)
  have F := Lib.hid (F.out.trans1 f22)
  clear f22
  clear RQ
  go_wp2_with fail
  have OV := rover_any at_ ts.length ct z
  rw [show overB ts.length z = true from by
    have j1 := congrArg List.length MT.out
    rw [List.length_map] at j1
    rw [j1]
    exact over_yes HT.out] at OV
  have OV := Lib.hid OV
  refine (OV.out _).mono ?_
  rintro e' w23 ⟨rfl, f23⟩
  have RP := Lib.hid (RP.out.frame f23)
  have RT := Lib.hid (RT.out.frame f23)
  have B6 := Lib.hid (B6.out.frame f23 (by simp))
  have V6 := Lib.hid (V6.out.frame f23)
  have B7 := Lib.hid (B7.out.frame f23 (by simp))
  have F := Lib.hid (F.out.trans1 f23)
  clear f23
  clear OV
  have t7 := B7.out.at 0 rfl
  go_wp2_with fail
  clear t7
  refine (alen_any none 0 0 _).mono ?_
  rintro e' w24 ⟨rfl, f24⟩
  have RP := Lib.hid (RP.out.frame f24)
  have RT := Lib.hid (RT.out.frame f24)
  have B6 := Lib.hid (B6.out.frame f24 (by simp))
  have V6 := Lib.hid (V6.out.frame f24)
  have B7 := Lib.hid (B7.out.frame f24 (by simp))
  have F := Lib.hid (F.out.trans1 f24)
  clear f24
  go_wp2_with fail
  refine (awake5 _).mono ?_
  rintro e' wz ⟨rfl, fz⟩
  go_wp2_with fail
  go_ret
  exact ⟨rfl, F.out.trans1 fz⟩
set_option maxHeartbeats 8000000 in
set_option maxRecDepth 100000 in
theorem antiAsks_in_over_ok (a b d : Option Addr) (c e k : Nat) (vs us : List SV) (S : List Int) (z : Int) (w : World) (h1 : Arg5 w a vs) (h2 : Arg5 w b us) (h3 : RdI w d S) (hs : SmallW [⟨a, c, vs⟩, ⟨b, e, us⟩]) (g1 : goodL (vs.map (·.l)) = true) (g2 : goodL (us.map (·.l)) = true) (hl : S.length ≤ 100) (hp : z < ((plusL (leastR (vs.map (·.l))) (leastR (us.map (·.l)))).length : Int)) (ht : ((timesL (leastR (vs.map (·.l))) (leastR (us.map (·.l)))).length : Int) ≤ z) :
    Calls Try.prog 7 #[.slice a vs.length c, .slice b us.length e, .slice d S.length k, .int .i64 z] w fun e' w' => e' = .returned (.bool true) ∧ Frame [] w w' := by
  have SS := small_two a b c e vs us w h1 h2
  rw [decide_eq_true hs] at SS
  have HS := Lib.hid SS
  obtain ⟨⟨p1, l1⟩, p2, l2⟩ := small_parts2 hs
  have R1 := h1.rv l1
  have R2 := h2.rv l2
  have S3 := Lib.hid h3
  have hd : decide ((S.length : Int) > 100) = false := decide_eq_false (by omega)
  have SA : Hid (∀ w', RdI w' d S → Calls Try.prog 10 #[.slice d S.length k] w' (FreshEnd 3 1 encI (srtI S) w')) := fun w' h => asorted_any d k S w' h (by omega)
  have SR : Hid (∀ w', RdI w' d S → Calls Try.prog 27 #[.slice d S.length k] w' (FreshEnd 3 1 encI (srtI S) w')) := fun w' h => rsortI_any _ d k S w' h.rfT (by omega)
  have SL : Hid ((srtI S).length ≤ 100) := Nat.le_trans (srtI_len S) hl
  have G1 : Hid (∀ w', Frame [] w w' → Calls Try.prog 14 #[.slice a vs.length c] w' fun e' w'' => e' = .returned (.bool true) ∧ Frame [] w' w'') := fun w' f => by
    have := good_any a c vs w' (R1.frame f) (by omega)
    rwa [g1] at this
  have G2 : Hid (∀ w', Frame [] w w' → Calls Try.prog 14 #[.slice b us.length e] w' fun e' w'' => e' = .returned (.bool true) ∧ Frame [] w' w'') := fun w' f => by
    have := good_any b e us w' (R2.frame f) (by omega)
    rwa [g2] at this
  have O1 : Hid (∀ w', Frame [] w w' → Calls Try.prog 15 #[.slice a vs.length c] w' (OfEnd (leastR (vs.map (·.l))) vs.length 12 w')) := fun w' f => of_good a c vs w' (R1.frame f) p1 l1 g1
  have O2 : Hid (∀ w', Frame [] w w' → Calls Try.prog 15 #[.slice b us.length e] w' (OfEnd (leastR (us.map (·.l))) us.length 12 w')) := fun w' f => of_good b e us w' (R2.frame f) p2 l2 g2
  have LE1 : Hid (∀ w', Frame [] w w' → Calls Try.prog 28 #[.slice a vs.length c] w' (RowEnd (leastR (vs.map (·.l))) w')) := fun w' f => (rleast_any a c vs w' (R1.frame f) (by omega)).mono fun _ _ h => h.fresh
  have LE2 : Hid (∀ w', Frame [] w w' → Calls Try.prog 28 #[.slice b us.length e] w' (RowEnd (leastR (us.map (·.l))) w')) := fun w' f => (rleast_any b e us w' (R2.frame f) (by omega)).mono fun _ _ h => h.fresh
  have HP := Lib.hid hp
  have HT := Lib.hid ht
  have sh1 : Hid (∀ s ∈ leastR (vs.map (·.l)), s.length ≤ 12) := least_short fun t ht => by obtain ⟨y, hy, rfl⟩ := List.mem_map.1 ht; exact l1 y hy
  have sh2 : Hid (∀ s ∈ leastR (us.map (·.l)), s.length ≤ 12) := least_short fun t ht => by obtain ⟨y, hy, rfl⟩ := List.mem_map.1 ht; exact l2 y hy
  generalize leastR (vs.map (·.l)) = f at *
  generalize leastR (us.map (·.l)) = g at *
  clear SS h1 h2 h3 hs g1 g2 l1 l2 R1 R2 hp ht
  go_enter Try.func7, Try.ntmps7
  go_wp2_with fail
  refine HS.out.mono ?_
  rintro e' w1 ⟨rfl, f1⟩
  have F := Lib.hid f1
  clear f1 HS
  go_wp2_with fail
  have S3 := Lib.hid (S3.out.frame F.out)
  refine (O1.out _ F.out).mono ?_
  rintro e' w2 ⟨a4, n4, c4, rfl, v4, f2⟩
  have q4 := f2.trans1 (Frame.alloc [] w2 (.cells #[.slice a4 n4 c4] 30))
  have S3 := Lib.hid (S3.out.frame q4)
  have F := Lib.hid (F.out.trans1 q4)
  have V4 := Lib.hid (v4.frame (Frame.alloc [] w2 (.cells #[.slice a4 n4 c4] 30)))
  clear v4 O1
  have B4 := Lib.hid (Blk.new w2 30 #[.slice a4 n4 c4])
  clear f2 q4
  go_wp2_with fail
  generalize w2.heap.size = b4 at *
  generalize w2.alloc (.cells #[.slice a4 n4 c4] 30) = x4 at *
  refine (O2.out _ F.out).mono ?_
  rintro e' w3 ⟨a5, n5, c5, rfl, v5, f3⟩
  have q5 := f3.trans1 (Frame.alloc [] w3 (.cells #[.slice a5 n5 c5] 30))
  have S3 := Lib.hid (S3.out.frame q5)
  have B4 := Lib.hid (B4.out.frame q5 (by simp))
  have V4 := Lib.hid (V4.out.frame q5)
  have F := Lib.hid (F.out.trans1 q5)
  have V5 := Lib.hid (v5.frame (Frame.alloc [] w3 (.cells #[.slice a5 n5 c5] 30)))
  clear v5 O2
  have B5 := Lib.hid (Blk.new w3 30 #[.slice a5 n5 c5])
  clear f3 q5
  go_wp2_with fail
  generalize w3.heap.size = b5 at *
  generalize w3.alloc (.cells #[.slice a5 n5 c5] 30) = x5 at *
  refine (G1.out _ F.out).mono ?_
  rintro e' w4 ⟨rfl, f4⟩
  have S3 := Lib.hid (S3.out.frame f4)
  have B4 := Lib.hid (B4.out.frame f4 (by simp))
  have V4 := Lib.hid (V4.out.frame f4)
  have B5 := Lib.hid (B5.out.frame f4 (by simp))
  have V5 := Lib.hid (V5.out.frame f4)
  have F := Lib.hid (F.out.trans1 f4)
  clear f4
  go_wp2_with fail
  refine (G2.out _ F.out).mono ?_
  rintro e' w5 ⟨rfl, f5⟩
  have S3 := Lib.hid (S3.out.frame f5)
  have B4 := Lib.hid (B4.out.frame f5 (by simp))
  have V4 := Lib.hid (V4.out.frame f5)
  have B5 := Lib.hid (B5.out.frame f5 (by simp))
  have V5 := Lib.hid (V5.out.frame f5)
  have F := Lib.hid (F.out.trans1 f5)
  clear f5
  go_wp2_with fail
  refine (SA.out _ S3.out).mono ?_
  rintro e' w6 ⟨a10, c10, G10, rfl, s10, f10, -⟩
  have S3 := Lib.hid (S3.out.frame f10)
  have B4 := Lib.hid (B4.out.frame f10 (by simp))
  have V4 := Lib.hid (V4.out.frame f10)
  have B5 := Lib.hid (B5.out.frame f10 (by simp))
  have V5 := Lib.hid (V5.out.frame f10)
  have F := Lib.hid (F.out.trans1 f10)
  have D10 := Lib.hid s10.rdI
  clear s10 f10
  go_wp2_with fail
  refine (SR.out _ S3.out).mono ?_
  rintro e' w7 ⟨a11, c11, G11, rfl, s11, f11, -⟩
  have S3 := Lib.hid (S3.out.frame f11)
  have B4 := Lib.hid (B4.out.frame f11 (by simp))
  have V4 := Lib.hid (V4.out.frame f11)
  have B5 := Lib.hid (B5.out.frame f11 (by simp))
  have V5 := Lib.hid (V5.out.frame f11)
  have D10 := Lib.hid (D10.out.frame f11)
  have F := Lib.hid (F.out.trans1 f11)
  have D11 := Lib.hid s11.rdI
  clear s11 f11
  go_wp2_with fail
  have II := ints_dec a10 a11 c10 c11 (srtI S) (srtI S) _ D10.out D11.out (by have := SL.out; omega) (by have := SL.out; omega)
  rw [decide_eq_true rfl] at II
  have II := Lib.hid II
  refine (II.out).mono ?_
  rintro e' w8 ⟨rfl, f8⟩
  have S3 := Lib.hid (S3.out.frame f8)
  have B4 := Lib.hid (B4.out.frame f8 (by simp))
  have V4 := Lib.hid (V4.out.frame f8)
  have B5 := Lib.hid (B5.out.frame f8 (by simp))
  have V5 := Lib.hid (V5.out.frame f8)
  have D10 := Lib.hid (D10.out.frame f8)
  have D11 := Lib.hid (D11.out.frame f8)
  have F := Lib.hid (F.out.trans1 f8)
  clear f8
  clear D10 D11
  clear II SA SR G1 G2
  go_wp2_with fail
  have LN : Hid (f.length ≤ 12 ∧ g.length ≤ 12 ∧ (plusL f g).length ≤ 24 ∧ (timesL f g).length ≤ 144 ∧ n4 = f.length ∧ n5 = g.length ∧ f.length * g.length ≤ 144) := by
    have i1 := V4.out.le
    have i2 := V5.out.le
    have i3 := plus_len f g
    have i4 := times_len f g
    have i5 : f.length * g.length ≤ 12 * 12 := Nat.mul_le_mul (by omega) (by omega)
    exact ⟨by omega, by omega, by omega, by omega, V4.out.len, V5.out.len, by omega⟩
  refine (LE1.out _ F.out).mono ?_
  rintro e' w9 ⟨ax, cx, xs, rfl, r9, m9, f9⟩
  have S3 := Lib.hid (S3.out.frame f9)
  have B4 := Lib.hid (B4.out.frame f9 (by simp))
  have V4 := Lib.hid (V4.out.frame f9)
  have B5 := Lib.hid (B5.out.frame f9 (by simp))
  have V5 := Lib.hid (V5.out.frame f9)
  have F := Lib.hid (F.out.trans1 f9)
  have RX := Lib.hid r9
  have MX := Lib.hid m9
  clear r9 m9 f9
  go_wp2_with fail
  refine (LE2.out _ F.out).mono ?_
  rintro e' w10 ⟨ay, cy, ys, rfl, r10, m10, f10⟩
  have S3 := Lib.hid (S3.out.frame f10)
  have B4 := Lib.hid (B4.out.frame f10 (by simp))
  have V4 := Lib.hid (V4.out.frame f10)
  have B5 := Lib.hid (B5.out.frame f10 (by simp))
  have V5 := Lib.hid (V5.out.frame f10)
  have RX := Lib.hid (RX.out.frame f10)
  have F := Lib.hid (F.out.trans1 f10)
  have RY := Lib.hid r10
  have MY := Lib.hid m10
  clear r10 m10 f10
  clear LE1 LE2
  have t4 := B4.out.at 0 rfl
  go_wp2_with fail
  clear t4
  refine ((asets_any _ f _ V4.out.v (by have := LN.out; omega)).mono fun _ _ h => h.fresh).mono ?_
  rintro e' w11 ⟨az, cz, zs, rfl, r11, m11, f11⟩
  have S3 := Lib.hid (S3.out.frame f11)
  have B4 := Lib.hid (B4.out.frame f11 (by simp))
  have V4 := Lib.hid (V4.out.frame f11)
  have B5 := Lib.hid (B5.out.frame f11 (by simp))
  have V5 := Lib.hid (V5.out.frame f11)
  have RX := Lib.hid (RX.out.frame f11)
  have RY := Lib.hid (RY.out.frame f11)
  have F := Lib.hid (F.out.trans1 f11)
  have RZ := Lib.hid r11
  have MZ := Lib.hid m11
  clear r11 m11 f11
  go_wp2_with fail
  refine (lists_yes az ax cz cx zs xs f _ RZ.out RX.out MZ.out MX.out (by have := LN.out; omega)).mono ?_
  rintro e' w12 ⟨rfl, f12⟩
  have S3 := Lib.hid (S3.out.frame f12)
  have B4 := Lib.hid (B4.out.frame f12 (by simp))
  have V4 := Lib.hid (V4.out.frame f12)
  have B5 := Lib.hid (B5.out.frame f12 (by simp))
  have V5 := Lib.hid (V5.out.frame f12)
  have RX := Lib.hid (RX.out.frame f12)
  have RY := Lib.hid (RY.out.frame f12)
  have RZ := Lib.hid (RZ.out.frame f12)
  have F := Lib.hid (F.out.trans1 f12)
  clear f12
  clear RZ
  have t4 := B4.out.at 0 rfl
  go_wp2_with fail
  clear t4
  refine (alen_any a4 n4 c4 _).mono ?_
  rintro e' w13 ⟨rfl, f13⟩
  have S3 := Lib.hid (S3.out.frame f13)
  have B4 := Lib.hid (B4.out.frame f13 (by simp))
  have V4 := Lib.hid (V4.out.frame f13)
  have B5 := Lib.hid (B5.out.frame f13 (by simp))
  have V5 := Lib.hid (V5.out.frame f13)
  have RX := Lib.hid (RX.out.frame f13)
  have RY := Lib.hid (RY.out.frame f13)
  have F := Lib.hid (F.out.trans1 f13)
  clear f13
  have hne : ((n4 : Int) != (xs.length : Int)) = false := by
    have j1 := congrArg List.length MX.out
    rw [List.length_map] at j1
    have := LN.out
    rw [bne_eq_false_iff_eq]
    omega
  have t4 := B4.out.at 0 rfl
  go_wp2_with fail
  clear t4
  refine (ahas_any _ f d k S _ V4.out.v V4.out.up (by have := LN.out; omega) S3.out (by omega)).mono ?_
  rintro e' w14 ⟨rfl, f14⟩
  have S3 := Lib.hid (S3.out.frame f14)
  have B4 := Lib.hid (B4.out.frame f14 (by simp))
  have V4 := Lib.hid (V4.out.frame f14)
  have B5 := Lib.hid (B5.out.frame f14 (by simp))
  have V5 := Lib.hid (V5.out.frame f14)
  have RX := Lib.hid (RX.out.frame f14)
  have RY := Lib.hid (RY.out.frame f14)
  have F := Lib.hid (F.out.trans1 f14)
  clear f14
  go_wp2_with fail
  refine (rhas_yes ax d cx k xs S f _ RX.out MX.out (by have := LN.out; omega) S3.out (by omega)).mono ?_
  rintro e' w15 ⟨rfl, f15⟩
  have S3 := Lib.hid (S3.out.frame f15)
  have B4 := Lib.hid (B4.out.frame f15 (by simp))
  have V4 := Lib.hid (V4.out.frame f15)
  have B5 := Lib.hid (B5.out.frame f15 (by simp))
  have V5 := Lib.hid (V5.out.frame f15)
  have RX := Lib.hid (RX.out.frame f15)
  have RY := Lib.hid (RY.out.frame f15)
  have F := Lib.hid (F.out.trans1 f15)
  clear f15
  have hpp : (hasL f S != hasL f S) = false := bne_self_eq_false _
  generalize hasL f S = p at *
  have FF := Lib.hid (Frame.alloc [] w15 (.cells #[] 22))
  have lxy : Hid (xs.length ≤ 12 ∧ ys.length ≤ 12) := by
    have j1 := congrArg List.length MX.out
    have j2 := congrArg List.length MY.out
    rw [List.length_map] at j1 j2
    have := LN.out
    exact ⟨by omega, by omega⟩
  have lx := lxy.out.1
  have ly := lxy.out.2
  go_wp2_with (at_builtin; first
    | (refine wpList_append_rf rfl (.tmp 109) (.tmp 110) 26 rfl 22 1 24 _ encV Try.underlying26 infoInts rfl (by omega) (.slice (some ⟨w15.heap.size, 0, none⟩) 0 0) [] 0 rfl [w15.heap.size] rfl (sl_empty w15 _ _ _) (fun b => b < w15.heap.size) ax xs.length cx xs rfl (RX.out.rf.frame0 FF.out) rfl encV_len encV_one xs.length (by omega) (by omega) (by omega) ?_; intro a20 cap20 w20 G20 sl20 f20 hG20; have E20 := Lib.hid (FF.out.trans f20 (fun x hx => .inr (by simp at hx; omega))); have HG20 : Hid (∀ x ∈ G20, w15.heap.size ≤ x) := (fun x hx => (hG20 x hx).elim (fun h => by simp at h; omega) (fun h => Nat.le_trans FF.out.size h)); have S20 := Lib.hid (show Sl w20 22 1 encV (.slice a20 xs.length cap20) xs G20 from sl20); clear sl20 f20 hG20)
    | (refine wpList_append_rf rfl (.tmp 111) (.tmp 112) 26 rfl 22 1 24 _ encV Try.underlying26 infoInts rfl (by omega) (.slice a20 xs.length cap20) xs xs.length rfl G20 rfl S20.out (fun b => b < w15.heap.size) ay ys.length cy ys rfl (RY.out.rf.frame0 E20.out) rfl encV_len encV_one (xs.length + ys.length) rfl (by omega) (by omega) ?_; intro a21 cap21 w21 G21 sl21 f21 hG21; have E21 := Lib.hid (E20.out.trans f21 (fun x hx => .inr (HG20.out x hx))); have S21 := Lib.hid sl21; clear sl21 f21 hG21))
  have S3 := Lib.hid (S3.out.frame E21.out)
  have B4 := Lib.hid (B4.out.frame E21.out (by simp))
  have V4 := Lib.hid (V4.out.frame E21.out)
  have B5 := Lib.hid (B5.out.frame E21.out (by simp))
  have V5 := Lib.hid (V5.out.frame E21.out)
  have RX := Lib.hid (RX.out.frame E21.out)
  have RY := Lib.hid (RY.out.frame E21.out)
  have F := Lib.hid (F.out.trans1 E21.out)
  have RXY : Hid (RV w21 a21 (xs ++ ys)) := ⟨S21.out.rf encV_len (fun b hb => S21.out.lt b hb), fun s hs => by
    rcases List.mem_append.1 hs with h | h
    · exact RX.out.ok s h
    · exact RY.out.ok s h⟩
  have LP := rleast_any a21 cap21 (xs ++ ys) w21 RXY.out (by rw [List.length_append]; omega)
  rw [List.length_append, List.map_append, MX.out, MY.out] at LP
  have LP : Hid (Calls Try.prog 28 #[.slice a21 (xs.length + ys.length) cap21] w21 (RowEnd (plusL f g) w21)) := LP.mono fun _ _ h => h.fresh
  clear S20 HG20 S21 E20 E21 FF RXY
  refine (LP.out).mono ?_
  rintro e' w16 ⟨ap, cp, ps, rfl, r16, m16, f16⟩
  have S3 := Lib.hid (S3.out.frame f16)
  have B4 := Lib.hid (B4.out.frame f16 (by simp))
  have V4 := Lib.hid (V4.out.frame f16)
  have B5 := Lib.hid (B5.out.frame f16 (by simp))
  have V5 := Lib.hid (V5.out.frame f16)
  have RX := Lib.hid (RX.out.frame f16)
  have RY := Lib.hid (RY.out.frame f16)
  have F := Lib.hid (F.out.trans1 f16)
  have RP := Lib.hid r16
  have MP := Lib.hid m16
  clear r16 m16 f16
  clear LP
  go_wp2_with fail
  have LU := runions_any ax ay cx cy xs ys _ ⟨RX.out, RY.out, fun s hs => by
    have := sh1.out s.l (by rw [← MX.out]; exact List.mem_map_of_mem hs)
    omega, fun s hs => by
    have := sh2.out s.l (by rw [← MY.out]; exact List.mem_map_of_mem hs)
    omega, by have := Nat.mul_le_mul lx ly; omega⟩ (by omega) (by omega)
  rw [MX.out, MY.out] at LU
  have LU : Hid (Calls Try.prog 30 #[.slice ax xs.length cx, .slice ay ys.length cy] _ (RowEnd (timesL f g) _)) := LU.mono fun _ _ h => h.fresh
  refine (LU.out).mono ?_
  rintro e' w17 ⟨at_, ct, ts, rfl, r17, m17, f17⟩
  have S3 := Lib.hid (S3.out.frame f17)
  have B4 := Lib.hid (B4.out.frame f17 (by simp))
  have V4 := Lib.hid (V4.out.frame f17)
  have B5 := Lib.hid (B5.out.frame f17 (by simp))
  have V5 := Lib.hid (V5.out.frame f17)
  have RX := Lib.hid (RX.out.frame f17)
  have RY := Lib.hid (RY.out.frame f17)
  have RP := Lib.hid (RP.out.frame f17)
  have F := Lib.hid (F.out.trans1 f17)
  have RT := Lib.hid r17
  have MT := Lib.hid m17
  clear r17 m17 f17
  clear LU
  clear RX RY
  have t4 := B4.out.at 0 rfl
  have t5 := B5.out.at 0 rfl
  go_wp2_with fail
  clear t4 t5
  refine (plus_over V4.out V5.out (by omega) z HP.out).mono ?_
  rintro e' w18 ⟨rfl, f18⟩
  have q6 := f18.trans1 (Frame.alloc [] w18 (.cells #[.slice none 0 0] 30))
  have S3 := Lib.hid (S3.out.frame q6)
  have B4 := Lib.hid (B4.out.frame q6 (by simp))
  have V4 := Lib.hid (V4.out.frame q6)
  have B5 := Lib.hid (B5.out.frame q6 (by simp))
  have V5 := Lib.hid (V5.out.frame q6)
  have RP := Lib.hid (RP.out.frame q6)
  have RT := Lib.hid (RT.out.frame q6)
  have F := Lib.hid (F.out.trans1 q6)
  have B6 := Lib.hid (Blk.new w18 30 #[.slice none 0 0])
  clear f18 q6
  have t4 := B4.out.at 0 rfl
  have t5 := B5.out.at 0 rfl
  go_wp2_with fail
  clear t4 t5
  generalize w18.heap.size = b6 at *
  generalize w18.alloc (.cells #[.slice none 0 0] 30) = x6 at *
  refine (times_new V4.out V5.out (by have := Nat.mul_le_mul p1 p2; omega) (by omega) (by omega) (by omega) (by omega) z HT.out).mono ?_
  rintro e' w19 ⟨a7, c7, rfl, v7, f19⟩
  have q7 := f19.trans1 (Frame.alloc [] w19 (.cells #[.slice a7 (timesL f g).length c7] 30))
  have S3 := Lib.hid (S3.out.frame q7)
  have B4 := Lib.hid (B4.out.frame q7 (by simp))
  have V4 := Lib.hid (V4.out.frame q7)
  have B5 := Lib.hid (B5.out.frame q7 (by simp))
  have V5 := Lib.hid (V5.out.frame q7)
  have RP := Lib.hid (RP.out.frame q7)
  have RT := Lib.hid (RT.out.frame q7)
  have B6 := Lib.hid (B6.out.frame q7 (by simp))
  have F := Lib.hid (F.out.trans1 q7)
  have V7 := Lib.hid (v7.fam.frame (Frame.alloc [] w19 (.cells #[.slice a7 (timesL f g).length c7] 30)))
  clear v7
  have B7 := Lib.hid (Blk.new w19 30 #[.slice a7 (timesL f g).length c7])
  clear f19 q7
  go_wp2_with fail
  generalize w19.heap.size = b7 at *
  generalize w19.alloc (.cells #[.slice a7 (timesL f g).length c7] 30) = x7 at *
  clear V4 V5 B4 B5 S3
  have OV := rover_any ap ps.length cp z
  rw [show overB ps.length z = true from by
    have j1 := congrArg List.length MP.out
    rw [List.length_map] at j1
    rw [j1]
    exact over_yes HP.out] at OV
  have OV := Lib.hid OV
  refine (OV.out _).mono ?_
  rintro e' w20 ⟨rfl, f20⟩
  have RP := Lib.hid (RP.out.frame f20)
  have RT := Lib.hid (RT.out.frame f20)
  have B6 := Lib.hid (B6.out.frame f20 (by simp))
  have B7 := Lib.hid (B7.out.frame f20 (by simp))
  have V7 := Lib.hid (V7.out.frame f20)
  have F := Lib.hid (F.out.trans1 f20)
  clear f20
  clear OV
  have t6 := B6.out.at 0 rfl
  go_wp2_with fail
  clear t6
  refine (alen_any none 0 0 _).mono ?_
  rintro e' w21 ⟨rfl, f21⟩
  have RP := Lib.hid (RP.out.frame f21)
  have RT := Lib.hid (RT.out.frame f21)
  have B6 := Lib.hid (B6.out.frame f21 (by simp))
  have B7 := Lib.hid (B7.out.frame f21 (by simp))
  have V7 := Lib.hid (V7.out.frame f21)
  have F := Lib.hid (F.out.trans1 f21)
  clear f21
  go_wp2_with fail
  have OV := rover_any at_ ts.length ct z
  rw [show overB ts.length z = false from by
    have j1 := congrArg List.length MT.out
    rw [List.length_map] at j1
    rw [j1]
    exact over_no HT.out (by have := LN.out; omega)] at OV
  have OV := Lib.hid OV
  refine (OV.out _).mono ?_
  rintro e' w22 ⟨rfl, f22⟩
  have RP := Lib.hid (RP.out.frame f22)
  have RT := Lib.hid (RT.out.frame f22)
  have B6 := Lib.hid (B6.out.frame f22 (by simp))
  have B7 := Lib.hid (B7.out.frame f22 (by simp))
  have V7 := Lib.hid (V7.out.frame f22)
  have F := Lib.hid (F.out.trans1 f22)
  clear f22
  clear OV
  have t7 := B7.out.at 0 rfl
  go_wp2_with fail
  clear t7
  refine ((asets_any _ (timesL f g) _ V7.out.v (by have := LN.out; omega)).mono fun _ _ h => h.fresh).mono ?_
  rintro e' w23 ⟨au, cu, ws, rfl, r23, m23, f23⟩
  have RP := Lib.hid (RP.out.frame f23)
  have RT := Lib.hid (RT.out.frame f23)
  have B6 := Lib.hid (B6.out.frame f23 (by simp))
  have B7 := Lib.hid (B7.out.frame f23 (by simp))
  have V7 := Lib.hid (V7.out.frame f23)
  have F := Lib.hid (F.out.trans1 f23)
  have RW := Lib.hid r23
  have MW := Lib.hid m23
  clear r23 m23 f23
  go_wp2_with fail
  refine (lists_yes au at_ cu ct ws ts (timesL f g) _ RW.out RT.out MW.out MT.out (by have := LN.out; omega)).mono ?_
  rintro e' w24 ⟨rfl, f24⟩
  have RP := Lib.hid (RP.out.frame f24)
  have RT := Lib.hid (RT.out.frame f24)
  have B6 := Lib.hid (B6.out.frame f24 (by simp))
  have B7 := Lib.hid (B7.out.frame f24 (by simp))
  have V7 := Lib.hid (V7.out.frame f24)
  have RW := Lib.hid (RW.out.frame f24)
  have F := Lib.hid (F.out.trans1 f24)
  clear f24
  clear RW
  go_wp2_with fail
  refine (awake5 _).mono ?_
  rintro e' wz ⟨rfl, fz⟩
  go_wp2_with fail
  go_ret
  exact ⟨rfl, F.out.trans1 fz⟩
set_option maxHeartbeats 8000000 in
set_option maxRecDepth 100000 in
theorem antiAsks_in_over_over (a b d : Option Addr) (c e k : Nat) (vs us : List SV) (S : List Int) (z : Int) (w : World) (h1 : Arg5 w a vs) (h2 : Arg5 w b us) (h3 : RdI w d S) (hs : SmallW [⟨a, c, vs⟩, ⟨b, e, us⟩]) (g1 : goodL (vs.map (·.l)) = true) (g2 : goodL (us.map (·.l)) = true) (hl : S.length ≤ 100) (hp : z < ((plusL (leastR (vs.map (·.l))) (leastR (us.map (·.l)))).length : Int)) (ht : z < ((timesL (leastR (vs.map (·.l))) (leastR (us.map (·.l)))).length : Int)) :
    Calls Try.prog 7 #[.slice a vs.length c, .slice b us.length e, .slice d S.length k, .int .i64 z] w fun e' w' => e' = .returned (.bool true) ∧ Frame [] w w' := by
  have SS := small_two a b c e vs us w h1 h2
  rw [decide_eq_true hs] at SS
  have HS := Lib.hid SS
  obtain ⟨⟨p1, l1⟩, p2, l2⟩ := small_parts2 hs
  have R1 := h1.rv l1
  have R2 := h2.rv l2
  have S3 := Lib.hid h3
  have hd : decide ((S.length : Int) > 100) = false := decide_eq_false (by omega)
  have SA : Hid (∀ w', RdI w' d S → Calls Try.prog 10 #[.slice d S.length k] w' (FreshEnd 3 1 encI (srtI S) w')) := fun w' h => asorted_any d k S w' h (by omega)
  have SR : Hid (∀ w', RdI w' d S → Calls Try.prog 27 #[.slice d S.length k] w' (FreshEnd 3 1 encI (srtI S) w')) := fun w' h => rsortI_any _ d k S w' h.rfT (by omega)
  have SL : Hid ((srtI S).length ≤ 100) := Nat.le_trans (srtI_len S) hl
  have G1 : Hid (∀ w', Frame [] w w' → Calls Try.prog 14 #[.slice a vs.length c] w' fun e' w'' => e' = .returned (.bool true) ∧ Frame [] w' w'') := fun w' f => by
    have := good_any a c vs w' (R1.frame f) (by omega)
    rwa [g1] at this
  have G2 : Hid (∀ w', Frame [] w w' → Calls Try.prog 14 #[.slice b us.length e] w' fun e' w'' => e' = .returned (.bool true) ∧ Frame [] w' w'') := fun w' f => by
    have := good_any b e us w' (R2.frame f) (by omega)
    rwa [g2] at this
  have O1 : Hid (∀ w', Frame [] w w' → Calls Try.prog 15 #[.slice a vs.length c] w' (OfEnd (leastR (vs.map (·.l))) vs.length 12 w')) := fun w' f => of_good a c vs w' (R1.frame f) p1 l1 g1
  have O2 : Hid (∀ w', Frame [] w w' → Calls Try.prog 15 #[.slice b us.length e] w' (OfEnd (leastR (us.map (·.l))) us.length 12 w')) := fun w' f => of_good b e us w' (R2.frame f) p2 l2 g2
  have LE1 : Hid (∀ w', Frame [] w w' → Calls Try.prog 28 #[.slice a vs.length c] w' (RowEnd (leastR (vs.map (·.l))) w')) := fun w' f => (rleast_any a c vs w' (R1.frame f) (by omega)).mono fun _ _ h => h.fresh
  have LE2 : Hid (∀ w', Frame [] w w' → Calls Try.prog 28 #[.slice b us.length e] w' (RowEnd (leastR (us.map (·.l))) w')) := fun w' f => (rleast_any b e us w' (R2.frame f) (by omega)).mono fun _ _ h => h.fresh
  have HP := Lib.hid hp
  have HT := Lib.hid ht
  have sh1 : Hid (∀ s ∈ leastR (vs.map (·.l)), s.length ≤ 12) := least_short fun t ht => by obtain ⟨y, hy, rfl⟩ := List.mem_map.1 ht; exact l1 y hy
  have sh2 : Hid (∀ s ∈ leastR (us.map (·.l)), s.length ≤ 12) := least_short fun t ht => by obtain ⟨y, hy, rfl⟩ := List.mem_map.1 ht; exact l2 y hy
  generalize leastR (vs.map (·.l)) = f at *
  generalize leastR (us.map (·.l)) = g at *
  clear SS h1 h2 h3 hs g1 g2 l1 l2 R1 R2 hp ht
  go_enter Try.func7, Try.ntmps7
  go_wp2_with fail
  refine HS.out.mono ?_
  rintro e' w1 ⟨rfl, f1⟩
  have F := Lib.hid f1
  clear f1 HS
  go_wp2_with fail
  have S3 := Lib.hid (S3.out.frame F.out)
  refine (O1.out _ F.out).mono ?_
  rintro e' w2 ⟨a4, n4, c4, rfl, v4, f2⟩
  have q4 := f2.trans1 (Frame.alloc [] w2 (.cells #[.slice a4 n4 c4] 30))
  have S3 := Lib.hid (S3.out.frame q4)
  have F := Lib.hid (F.out.trans1 q4)
  have V4 := Lib.hid (v4.frame (Frame.alloc [] w2 (.cells #[.slice a4 n4 c4] 30)))
  clear v4 O1
  have B4 := Lib.hid (Blk.new w2 30 #[.slice a4 n4 c4])
  clear f2 q4
  go_wp2_with fail
  generalize w2.heap.size = b4 at *
  generalize w2.alloc (.cells #[.slice a4 n4 c4] 30) = x4 at *
  refine (O2.out _ F.out).mono ?_
  rintro e' w3 ⟨a5, n5, c5, rfl, v5, f3⟩
  have q5 := f3.trans1 (Frame.alloc [] w3 (.cells #[.slice a5 n5 c5] 30))
  have S3 := Lib.hid (S3.out.frame q5)
  have B4 := Lib.hid (B4.out.frame q5 (by simp))
  have V4 := Lib.hid (V4.out.frame q5)
  have F := Lib.hid (F.out.trans1 q5)
  have V5 := Lib.hid (v5.frame (Frame.alloc [] w3 (.cells #[.slice a5 n5 c5] 30)))
  clear v5 O2
  have B5 := Lib.hid (Blk.new w3 30 #[.slice a5 n5 c5])
  clear f3 q5
  go_wp2_with fail
  generalize w3.heap.size = b5 at *
  generalize w3.alloc (.cells #[.slice a5 n5 c5] 30) = x5 at *
  refine (G1.out _ F.out).mono ?_
  rintro e' w4 ⟨rfl, f4⟩
  have S3 := Lib.hid (S3.out.frame f4)
  have B4 := Lib.hid (B4.out.frame f4 (by simp))
  have V4 := Lib.hid (V4.out.frame f4)
  have B5 := Lib.hid (B5.out.frame f4 (by simp))
  have V5 := Lib.hid (V5.out.frame f4)
  have F := Lib.hid (F.out.trans1 f4)
  clear f4
  go_wp2_with fail
  refine (G2.out _ F.out).mono ?_
  rintro e' w5 ⟨rfl, f5⟩
  have S3 := Lib.hid (S3.out.frame f5)
  have B4 := Lib.hid (B4.out.frame f5 (by simp))
  have V4 := Lib.hid (V4.out.frame f5)
  have B5 := Lib.hid (B5.out.frame f5 (by simp))
  have V5 := Lib.hid (V5.out.frame f5)
  have F := Lib.hid (F.out.trans1 f5)
  clear f5
  go_wp2_with fail
  refine (SA.out _ S3.out).mono ?_
  rintro e' w6 ⟨a10, c10, G10, rfl, s10, f10, -⟩
  have S3 := Lib.hid (S3.out.frame f10)
  have B4 := Lib.hid (B4.out.frame f10 (by simp))
  have V4 := Lib.hid (V4.out.frame f10)
  have B5 := Lib.hid (B5.out.frame f10 (by simp))
  have V5 := Lib.hid (V5.out.frame f10)
  have F := Lib.hid (F.out.trans1 f10)
  have D10 := Lib.hid s10.rdI
  clear s10 f10
  go_wp2_with fail
  refine (SR.out _ S3.out).mono ?_
  rintro e' w7 ⟨a11, c11, G11, rfl, s11, f11, -⟩
  have S3 := Lib.hid (S3.out.frame f11)
  have B4 := Lib.hid (B4.out.frame f11 (by simp))
  have V4 := Lib.hid (V4.out.frame f11)
  have B5 := Lib.hid (B5.out.frame f11 (by simp))
  have V5 := Lib.hid (V5.out.frame f11)
  have D10 := Lib.hid (D10.out.frame f11)
  have F := Lib.hid (F.out.trans1 f11)
  have D11 := Lib.hid s11.rdI
  clear s11 f11
  go_wp2_with fail
  have II := ints_dec a10 a11 c10 c11 (srtI S) (srtI S) _ D10.out D11.out (by have := SL.out; omega) (by have := SL.out; omega)
  rw [decide_eq_true rfl] at II
  have II := Lib.hid II
  refine (II.out).mono ?_
  rintro e' w8 ⟨rfl, f8⟩
  have S3 := Lib.hid (S3.out.frame f8)
  have B4 := Lib.hid (B4.out.frame f8 (by simp))
  have V4 := Lib.hid (V4.out.frame f8)
  have B5 := Lib.hid (B5.out.frame f8 (by simp))
  have V5 := Lib.hid (V5.out.frame f8)
  have D10 := Lib.hid (D10.out.frame f8)
  have D11 := Lib.hid (D11.out.frame f8)
  have F := Lib.hid (F.out.trans1 f8)
  clear f8
  clear D10 D11
  clear II SA SR G1 G2
  go_wp2_with fail
  have LN : Hid (f.length ≤ 12 ∧ g.length ≤ 12 ∧ (plusL f g).length ≤ 24 ∧ (timesL f g).length ≤ 144 ∧ n4 = f.length ∧ n5 = g.length ∧ f.length * g.length ≤ 144) := by
    have i1 := V4.out.le
    have i2 := V5.out.le
    have i3 := plus_len f g
    have i4 := times_len f g
    have i5 : f.length * g.length ≤ 12 * 12 := Nat.mul_le_mul (by omega) (by omega)
    exact ⟨by omega, by omega, by omega, by omega, V4.out.len, V5.out.len, by omega⟩
  refine (LE1.out _ F.out).mono ?_
  rintro e' w9 ⟨ax, cx, xs, rfl, r9, m9, f9⟩
  have S3 := Lib.hid (S3.out.frame f9)
  have B4 := Lib.hid (B4.out.frame f9 (by simp))
  have V4 := Lib.hid (V4.out.frame f9)
  have B5 := Lib.hid (B5.out.frame f9 (by simp))
  have V5 := Lib.hid (V5.out.frame f9)
  have F := Lib.hid (F.out.trans1 f9)
  have RX := Lib.hid r9
  have MX := Lib.hid m9
  clear r9 m9 f9
  go_wp2_with fail
  refine (LE2.out _ F.out).mono ?_
  rintro e' w10 ⟨ay, cy, ys, rfl, r10, m10, f10⟩
  have S3 := Lib.hid (S3.out.frame f10)
  have B4 := Lib.hid (B4.out.frame f10 (by simp))
  have V4 := Lib.hid (V4.out.frame f10)
  have B5 := Lib.hid (B5.out.frame f10 (by simp))
  have V5 := Lib.hid (V5.out.frame f10)
  have RX := Lib.hid (RX.out.frame f10)
  have F := Lib.hid (F.out.trans1 f10)
  have RY := Lib.hid r10
  have MY := Lib.hid m10
  clear r10 m10 f10
  clear LE1 LE2
  have t4 := B4.out.at 0 rfl
  go_wp2_with fail
  clear t4
  refine ((asets_any _ f _ V4.out.v (by have := LN.out; omega)).mono fun _ _ h => h.fresh).mono ?_
  rintro e' w11 ⟨az, cz, zs, rfl, r11, m11, f11⟩
  have S3 := Lib.hid (S3.out.frame f11)
  have B4 := Lib.hid (B4.out.frame f11 (by simp))
  have V4 := Lib.hid (V4.out.frame f11)
  have B5 := Lib.hid (B5.out.frame f11 (by simp))
  have V5 := Lib.hid (V5.out.frame f11)
  have RX := Lib.hid (RX.out.frame f11)
  have RY := Lib.hid (RY.out.frame f11)
  have F := Lib.hid (F.out.trans1 f11)
  have RZ := Lib.hid r11
  have MZ := Lib.hid m11
  clear r11 m11 f11
  go_wp2_with fail
  refine (lists_yes az ax cz cx zs xs f _ RZ.out RX.out MZ.out MX.out (by have := LN.out; omega)).mono ?_
  rintro e' w12 ⟨rfl, f12⟩
  have S3 := Lib.hid (S3.out.frame f12)
  have B4 := Lib.hid (B4.out.frame f12 (by simp))
  have V4 := Lib.hid (V4.out.frame f12)
  have B5 := Lib.hid (B5.out.frame f12 (by simp))
  have V5 := Lib.hid (V5.out.frame f12)
  have RX := Lib.hid (RX.out.frame f12)
  have RY := Lib.hid (RY.out.frame f12)
  have RZ := Lib.hid (RZ.out.frame f12)
  have F := Lib.hid (F.out.trans1 f12)
  clear f12
  clear RZ
  have t4 := B4.out.at 0 rfl
  go_wp2_with fail
  clear t4
  refine (alen_any a4 n4 c4 _).mono ?_
  rintro e' w13 ⟨rfl, f13⟩
  have S3 := Lib.hid (S3.out.frame f13)
  have B4 := Lib.hid (B4.out.frame f13 (by simp))
  have V4 := Lib.hid (V4.out.frame f13)
  have B5 := Lib.hid (B5.out.frame f13 (by simp))
  have V5 := Lib.hid (V5.out.frame f13)
  have RX := Lib.hid (RX.out.frame f13)
  have RY := Lib.hid (RY.out.frame f13)
  have F := Lib.hid (F.out.trans1 f13)
  clear f13
  have hne : ((n4 : Int) != (xs.length : Int)) = false := by
    have j1 := congrArg List.length MX.out
    rw [List.length_map] at j1
    have := LN.out
    rw [bne_eq_false_iff_eq]
    omega
  have t4 := B4.out.at 0 rfl
  go_wp2_with fail
  clear t4
  refine (ahas_any _ f d k S _ V4.out.v V4.out.up (by have := LN.out; omega) S3.out (by omega)).mono ?_
  rintro e' w14 ⟨rfl, f14⟩
  have S3 := Lib.hid (S3.out.frame f14)
  have B4 := Lib.hid (B4.out.frame f14 (by simp))
  have V4 := Lib.hid (V4.out.frame f14)
  have B5 := Lib.hid (B5.out.frame f14 (by simp))
  have V5 := Lib.hid (V5.out.frame f14)
  have RX := Lib.hid (RX.out.frame f14)
  have RY := Lib.hid (RY.out.frame f14)
  have F := Lib.hid (F.out.trans1 f14)
  clear f14
  go_wp2_with fail
  refine (rhas_yes ax d cx k xs S f _ RX.out MX.out (by have := LN.out; omega) S3.out (by omega)).mono ?_
  rintro e' w15 ⟨rfl, f15⟩
  have S3 := Lib.hid (S3.out.frame f15)
  have B4 := Lib.hid (B4.out.frame f15 (by simp))
  have V4 := Lib.hid (V4.out.frame f15)
  have B5 := Lib.hid (B5.out.frame f15 (by simp))
  have V5 := Lib.hid (V5.out.frame f15)
  have RX := Lib.hid (RX.out.frame f15)
  have RY := Lib.hid (RY.out.frame f15)
  have F := Lib.hid (F.out.trans1 f15)
  clear f15
  have hpp : (hasL f S != hasL f S) = false := bne_self_eq_false _
  generalize hasL f S = p at *
  have FF := Lib.hid (Frame.alloc [] w15 (.cells #[] 22))
  have lxy : Hid (xs.length ≤ 12 ∧ ys.length ≤ 12) := by
    have j1 := congrArg List.length MX.out
    have j2 := congrArg List.length MY.out
    rw [List.length_map] at j1 j2
    have := LN.out
    exact ⟨by omega, by omega⟩
  have lx := lxy.out.1
  have ly := lxy.out.2
  go_wp2_with (at_builtin; first
    | (refine wpList_append_rf rfl (.tmp 109) (.tmp 110) 26 rfl 22 1 24 _ encV Try.underlying26 infoInts rfl (by omega) (.slice (some ⟨w15.heap.size, 0, none⟩) 0 0) [] 0 rfl [w15.heap.size] rfl (sl_empty w15 _ _ _) (fun b => b < w15.heap.size) ax xs.length cx xs rfl (RX.out.rf.frame0 FF.out) rfl encV_len encV_one xs.length (by omega) (by omega) (by omega) ?_; intro a20 cap20 w20 G20 sl20 f20 hG20; have E20 := Lib.hid (FF.out.trans f20 (fun x hx => .inr (by simp at hx; omega))); have HG20 : Hid (∀ x ∈ G20, w15.heap.size ≤ x) := (fun x hx => (hG20 x hx).elim (fun h => by simp at h; omega) (fun h => Nat.le_trans FF.out.size h)); have S20 := Lib.hid (show Sl w20 22 1 encV (.slice a20 xs.length cap20) xs G20 from sl20); clear sl20 f20 hG20)
    | (refine wpList_append_rf rfl (.tmp 111) (.tmp 112) 26 rfl 22 1 24 _ encV Try.underlying26 infoInts rfl (by omega) (.slice a20 xs.length cap20) xs xs.length rfl G20 rfl S20.out (fun b => b < w15.heap.size) ay ys.length cy ys rfl (RY.out.rf.frame0 E20.out) rfl encV_len encV_one (xs.length + ys.length) rfl (by omega) (by omega) ?_; intro a21 cap21 w21 G21 sl21 f21 hG21; have E21 := Lib.hid (E20.out.trans f21 (fun x hx => .inr (HG20.out x hx))); have S21 := Lib.hid sl21; clear sl21 f21 hG21))
  have S3 := Lib.hid (S3.out.frame E21.out)
  have B4 := Lib.hid (B4.out.frame E21.out (by simp))
  have V4 := Lib.hid (V4.out.frame E21.out)
  have B5 := Lib.hid (B5.out.frame E21.out (by simp))
  have V5 := Lib.hid (V5.out.frame E21.out)
  have RX := Lib.hid (RX.out.frame E21.out)
  have RY := Lib.hid (RY.out.frame E21.out)
  have F := Lib.hid (F.out.trans1 E21.out)
  have RXY : Hid (RV w21 a21 (xs ++ ys)) := ⟨S21.out.rf encV_len (fun b hb => S21.out.lt b hb), fun s hs => by
    rcases List.mem_append.1 hs with h | h
    · exact RX.out.ok s h
    · exact RY.out.ok s h⟩
  have LP := rleast_any a21 cap21 (xs ++ ys) w21 RXY.out (by rw [List.length_append]; omega)
  rw [List.length_append, List.map_append, MX.out, MY.out] at LP
  have LP : Hid (Calls Try.prog 28 #[.slice a21 (xs.length + ys.length) cap21] w21 (RowEnd (plusL f g) w21)) := LP.mono fun _ _ h => h.fresh
  clear S20 HG20 S21 E20 E21 FF RXY
  refine (LP.out).mono ?_
  rintro e' w16 ⟨ap, cp, ps, rfl, r16, m16, f16⟩
  have S3 := Lib.hid (S3.out.frame f16)
  have B4 := Lib.hid (B4.out.frame f16 (by simp))
  have V4 := Lib.hid (V4.out.frame f16)
  have B5 := Lib.hid (B5.out.frame f16 (by simp))
  have V5 := Lib.hid (V5.out.frame f16)
  have RX := Lib.hid (RX.out.frame f16)
  have RY := Lib.hid (RY.out.frame f16)
  have F := Lib.hid (F.out.trans1 f16)
  have RP := Lib.hid r16
  have MP := Lib.hid m16
  clear r16 m16 f16
  clear LP
  go_wp2_with fail
  have LU := runions_any ax ay cx cy xs ys _ ⟨RX.out, RY.out, fun s hs => by
    have := sh1.out s.l (by rw [← MX.out]; exact List.mem_map_of_mem hs)
    omega, fun s hs => by
    have := sh2.out s.l (by rw [← MY.out]; exact List.mem_map_of_mem hs)
    omega, by have := Nat.mul_le_mul lx ly; omega⟩ (by omega) (by omega)
  rw [MX.out, MY.out] at LU
  have LU : Hid (Calls Try.prog 30 #[.slice ax xs.length cx, .slice ay ys.length cy] _ (RowEnd (timesL f g) _)) := LU.mono fun _ _ h => h.fresh
  refine (LU.out).mono ?_
  rintro e' w17 ⟨at_, ct, ts, rfl, r17, m17, f17⟩
  have S3 := Lib.hid (S3.out.frame f17)
  have B4 := Lib.hid (B4.out.frame f17 (by simp))
  have V4 := Lib.hid (V4.out.frame f17)
  have B5 := Lib.hid (B5.out.frame f17 (by simp))
  have V5 := Lib.hid (V5.out.frame f17)
  have RX := Lib.hid (RX.out.frame f17)
  have RY := Lib.hid (RY.out.frame f17)
  have RP := Lib.hid (RP.out.frame f17)
  have F := Lib.hid (F.out.trans1 f17)
  have RT := Lib.hid r17
  have MT := Lib.hid m17
  clear r17 m17 f17
  clear LU
  clear RX RY
  have t4 := B4.out.at 0 rfl
  have t5 := B5.out.at 0 rfl
  go_wp2_with fail
  clear t4 t5
  refine (plus_over V4.out V5.out (by omega) z HP.out).mono ?_
  rintro e' w18 ⟨rfl, f18⟩
  have q6 := f18.trans1 (Frame.alloc [] w18 (.cells #[.slice none 0 0] 30))
  have S3 := Lib.hid (S3.out.frame q6)
  have B4 := Lib.hid (B4.out.frame q6 (by simp))
  have V4 := Lib.hid (V4.out.frame q6)
  have B5 := Lib.hid (B5.out.frame q6 (by simp))
  have V5 := Lib.hid (V5.out.frame q6)
  have RP := Lib.hid (RP.out.frame q6)
  have RT := Lib.hid (RT.out.frame q6)
  have F := Lib.hid (F.out.trans1 q6)
  have B6 := Lib.hid (Blk.new w18 30 #[.slice none 0 0])
  clear f18 q6
  have t4 := B4.out.at 0 rfl
  have t5 := B5.out.at 0 rfl
  go_wp2_with fail
  clear t4 t5
  generalize w18.heap.size = b6 at *
  generalize w18.alloc (.cells #[.slice none 0 0] 30) = x6 at *
  refine (times_over V4.out V5.out (by have := Nat.mul_le_mul p1 p2; omega) (by omega) (by omega) (by omega) (by omega) z HT.out).mono ?_
  rintro e' w19 ⟨rfl, f19⟩
  have q7 := f19.trans1 (Frame.alloc [] w19 (.cells #[.slice none 0 0] 30))
  have S3 := Lib.hid (S3.out.frame q7)
  have B4 := Lib.hid (B4.out.frame q7 (by simp))
  have V4 := Lib.hid (V4.out.frame q7)
  have B5 := Lib.hid (B5.out.frame q7 (by simp))
  have V5 := Lib.hid (V5.out.frame q7)
  have RP := Lib.hid (RP.out.frame q7)
  have RT := Lib.hid (RT.out.frame q7)
  have B6 := Lib.hid (B6.out.frame q7 (by simp))
  have F := Lib.hid (F.out.trans1 q7)
  have B7 := Lib.hid (Blk.new w19 30 #[.slice none 0 0])
  clear f19 q7
  go_wp2_with fail
  generalize w19.heap.size = b7 at *
  generalize w19.alloc (.cells #[.slice none 0 0] 30) = x7 at *
  clear V4 V5 B4 B5 S3
  have OV := rover_any ap ps.length cp z
  rw [show overB ps.length z = true from by
    have j1 := congrArg List.length MP.out
    rw [List.length_map] at j1
    rw [j1]
    exact over_yes HP.out] at OV
  have OV := Lib.hid OV
  refine (OV.out _).mono ?_
  rintro e' w20 ⟨rfl, f20⟩
  have RP := Lib.hid (RP.out.frame f20)
  have RT := Lib.hid (RT.out.frame f20)
  have B6 := Lib.hid (B6.out.frame f20 (by simp))
  have B7 := Lib.hid (B7.out.frame f20 (by simp))
  have F := Lib.hid (F.out.trans1 f20)
  clear f20
  clear OV
  have t6 := B6.out.at 0 rfl
  go_wp2_with fail
  clear t6
  refine (alen_any none 0 0 _).mono ?_
  rintro e' w21 ⟨rfl, f21⟩
  have RP := Lib.hid (RP.out.frame f21)
  have RT := Lib.hid (RT.out.frame f21)
  have B6 := Lib.hid (B6.out.frame f21 (by simp))
  have B7 := Lib.hid (B7.out.frame f21 (by simp))
  have F := Lib.hid (F.out.trans1 f21)
  clear f21
  go_wp2_with fail
  have OV := rover_any at_ ts.length ct z
  rw [show overB ts.length z = true from by
    have j1 := congrArg List.length MT.out
    rw [List.length_map] at j1
    rw [j1]
    exact over_yes HT.out] at OV
  have OV := Lib.hid OV
  refine (OV.out _).mono ?_
  rintro e' w22 ⟨rfl, f22⟩
  have RP := Lib.hid (RP.out.frame f22)
  have RT := Lib.hid (RT.out.frame f22)
  have B6 := Lib.hid (B6.out.frame f22 (by simp))
  have B7 := Lib.hid (B7.out.frame f22 (by simp))
  have F := Lib.hid (F.out.trans1 f22)
  clear f22
  clear OV
  have t7 := B7.out.at 0 rfl
  go_wp2_with fail
  clear t7
  refine (alen_any none 0 0 _).mono ?_
  rintro e' w23 ⟨rfl, f23⟩
  have RP := Lib.hid (RP.out.frame f23)
  have RT := Lib.hid (RT.out.frame f23)
  have B6 := Lib.hid (B6.out.frame f23 (by simp))
  have B7 := Lib.hid (B7.out.frame f23 (by simp))
  have F := Lib.hid (F.out.trans1 f23)
  clear f23
  go_wp2_with fail
  refine (awake5 _).mono ?_
  rintro e' wz ⟨rfl, fz⟩
  go_wp2_with fail
  go_ret
  exact ⟨rfl, F.out.trans1 fz⟩
end Go.Proofs.Ytojfemaamhampaa
