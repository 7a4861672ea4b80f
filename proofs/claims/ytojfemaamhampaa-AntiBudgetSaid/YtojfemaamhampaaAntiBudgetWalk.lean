/- tansylaw5.AntiBudget: the walk. -/
import Derived.Test.YtojfemaamhampaaLaw6
namespace Go.Proofs.Ytojfemaamhampaa
open Go.RowKit
set_option linter.unusedSimpArgs false
set_option linter.unusedVariables false

/-- What stands in a family's block. -/
theorem fam_cell5 {w : World} {b : Nat} {x : Value} (h : Blk w b 30 #[x]) : ∀ w', Frame [] w w' → w'.cell? ⟨b, 0, none⟩ = some x := fun w' f => (h.frame f (by simp)).at 0 rfl
set_option maxRecDepth 100000 in
theorem antiBudget_out (a b : Option Addr) (c e : Nat) (vs us : List SV) (t : Bool) (w : World) (h1 : Arg5 w a vs) (h2 : Arg5 w b us) (hs : ¬ SmallW [⟨a, c, vs⟩, ⟨b, e, us⟩]) :
    Calls Try.prog 6 #[.slice a vs.length c, .slice b us.length e, .bool t] w fun e w' => e = .returned (.bool true) ∧ Frame [] w w' := by
  have SS := small_two a b c e vs us w h1 h2
  rw [decide_eq_false hs] at SS
  have HS := Lib.hid SS
  clear SS
  clear h1 h2 hs
  go_enter Try.func6, Try.ntmps6
  go_wp2_with fail
  refine HS.out.mono ?_
  rintro e w1 ⟨rfl, f1⟩
  have F := Lib.hid f1
  clear f1
  go_wp2_with fail
  refine (awake5 _).mono ?_
  rintro e wz ⟨rfl, fz⟩
  go_wp2_with fail
  go_ret
  exact ⟨rfl, F.out.trans1 fz⟩
set_option maxRecDepth 100000 in
theorem antiBudget_bad1 (a b : Option Addr) (c e : Nat) (vs us : List SV) (t : Bool) (w : World) (h1 : Arg5 w a vs) (h2 : Arg5 w b us) (hs : SmallW [⟨a, c, vs⟩, ⟨b, e, us⟩]) (g1 : goodL (vs.map (·.l)) = false) :
    Calls Try.prog 6 #[.slice a vs.length c, .slice b us.length e, .bool t] w fun e w' => e = .returned (.bool true) ∧ Frame [] w w' := by
  have SS := small_two a b c e vs us w h1 h2
  rw [decide_eq_true hs] at SS
  have HS := Lib.hid SS
  clear SS
  obtain ⟨⟨p1, p2⟩, q1, q2⟩ := small_parts2 hs
  have R1 := Lib.hid (h1.rv p2)
  have R2 := Lib.hid (h2.rv q2)
  have G1 : Hid (∀ w', Frame [] w w' → Calls Try.prog 14 #[.slice a vs.length c] w' fun e w'' => e = .returned (.bool (goodL (vs.map (·.l)))) ∧ Frame [] w' w'') := fun w' f => good_any a c vs w' (R1.out.frame f) (by omega)
  have G2 : Hid (∀ w', Frame [] w w' → Calls Try.prog 14 #[.slice b us.length e] w' fun e w'' => e = .returned (.bool (goodL (us.map (·.l)))) ∧ Frame [] w' w'') := fun w' f => good_any b e us w' (R2.out.frame f) (by omega)
  rw [g1] at G1
  clear g1 p2 q2 R1 R2
  clear h1 h2 hs
  go_enter Try.func6, Try.ntmps6
  go_wp2_with fail
  refine HS.out.mono ?_
  rintro e w1 ⟨rfl, f1⟩
  have F := Lib.hid f1
  clear f1
  go_wp2_with fail
  refine (G1.out _ F.out).mono ?_
  rintro e w1 ⟨rfl, f1⟩
  have F := Lib.hid (F.out.trans1 f1)
  clear f1
  go_wp2_with fail
  refine (awake5 _).mono ?_
  rintro e wz ⟨rfl, fz⟩
  go_wp2_with fail
  go_ret
  exact ⟨rfl, F.out.trans1 fz⟩
set_option maxRecDepth 100000 in
theorem antiBudget_bad2 (a b : Option Addr) (c e : Nat) (vs us : List SV) (t : Bool) (w : World) (h1 : Arg5 w a vs) (h2 : Arg5 w b us) (hs : SmallW [⟨a, c, vs⟩, ⟨b, e, us⟩]) (g1 : goodL (vs.map (·.l)) = true) (g2 : goodL (us.map (·.l)) = false) :
    Calls Try.prog 6 #[.slice a vs.length c, .slice b us.length e, .bool t] w fun e w' => e = .returned (.bool true) ∧ Frame [] w w' := by
  have SS := small_two a b c e vs us w h1 h2
  rw [decide_eq_true hs] at SS
  have HS := Lib.hid SS
  clear SS
  obtain ⟨⟨p1, p2⟩, q1, q2⟩ := small_parts2 hs
  have R1 := Lib.hid (h1.rv p2)
  have R2 := Lib.hid (h2.rv q2)
  have G1 : Hid (∀ w', Frame [] w w' → Calls Try.prog 14 #[.slice a vs.length c] w' fun e w'' => e = .returned (.bool (goodL (vs.map (·.l)))) ∧ Frame [] w' w'') := fun w' f => good_any a c vs w' (R1.out.frame f) (by omega)
  have G2 : Hid (∀ w', Frame [] w w' → Calls Try.prog 14 #[.slice b us.length e] w' fun e w'' => e = .returned (.bool (goodL (us.map (·.l)))) ∧ Frame [] w' w'') := fun w' f => good_any b e us w' (R2.out.frame f) (by omega)
  rw [g1] at G1
  rw [g2] at G2
  clear g1 g2 p2 q2 R1 R2
  clear h1 h2 hs
  go_enter Try.func6, Try.ntmps6
  go_wp2_with fail
  refine HS.out.mono ?_
  rintro e w1 ⟨rfl, f1⟩
  have F := Lib.hid f1
  clear f1
  go_wp2_with fail
  refine (G1.out _ F.out).mono ?_
  rintro e w1 ⟨rfl, f1⟩
  have F := Lib.hid (F.out.trans1 f1)
  clear f1
  go_wp2_with fail
  refine (G2.out _ F.out).mono ?_
  rintro e w1 ⟨rfl, f1⟩
  have F := Lib.hid (F.out.trans1 f1)
  clear f1
  go_wp2_with fail
  refine (awake5 _).mono ?_
  rintro e wz ⟨rfl, fz⟩
  go_wp2_with fail
  go_ret
  exact ⟨rfl, F.out.trans1 fz⟩
set_option maxHeartbeats 8000000 in
set_option maxRecDepth 100000 in
theorem antiBudget_plus (a b : Option Addr) (c e : Nat) (vs us : List SV) (w : World) (h1 : Arg5 w a vs) (h2 : Arg5 w b us) (hs : SmallW [⟨a, c, vs⟩, ⟨b, e, us⟩]) (g1 : goodL (vs.map (·.l)) = true) (g2 : goodL (us.map (·.l)) = true) :
    Calls Try.prog 6 #[.slice a vs.length c, .slice b us.length e, .bool false] w fun e w' => e = .returned (.bool true) ∧ Frame [] w w' := by
  have SS := small_two a b c e vs us w h1 h2
  rw [decide_eq_true hs] at SS
  have HS := Lib.hid SS
  clear SS
  obtain ⟨⟨p1, p2⟩, q1, q2⟩ := small_parts2 hs
  have R1 := Lib.hid (h1.rv p2)
  have R2 := Lib.hid (h2.rv q2)
  have G1 : Hid (∀ w', Frame [] w w' → Calls Try.prog 14 #[.slice a vs.length c] w' fun e w'' => e = .returned (.bool true) ∧ Frame [] w' w'') := fun w' f => by
    have := good_any a c vs w' (R1.out.frame f) (by omega)
    rwa [g1] at this
  have G2 : Hid (∀ w', Frame [] w w' → Calls Try.prog 14 #[.slice b us.length e] w' fun e w'' => e = .returned (.bool true) ∧ Frame [] w' w'') := fun w' f => by
    have := good_any b e us w' (R2.out.frame f) (by omega)
    rwa [g2] at this
  have O1 : Hid (∀ w', Frame [] w w' → Calls Try.prog 15 #[.slice a vs.length c] w' (OfEnd (leastR (vs.map (·.l))) vs.length 12 w')) := fun w' f => of_good a c vs w' (R1.out.frame f) p1 p2 g1
  have O2 : Hid (∀ w', Frame [] w w' → Calls Try.prog 15 #[.slice b us.length e] w' (OfEnd (leastR (us.map (·.l))) us.length 12 w')) := fun w' f => of_good b e us w' (R2.out.frame f) q1 q2 g2
  have nm : Hid (vs.length + us.length ≤ 24 ∧ vs.length * us.length ≤ 144) := ⟨by omega, Nat.mul_le_mul p1 q1⟩
  generalize leastR (vs.map (·.l)) = f at *
  generalize leastR (us.map (·.l)) = g at *
  clear h1 h2 hs g1 g2 p2 q2 R1 R2
  go_enter Try.func6, Try.ntmps6
  go_wp2_with fail
  refine HS.out.mono ?_
  rintro e w1 ⟨rfl, f1⟩
  have F1 := Lib.hid f1
  clear f1 HS
  go_wp2_with fail
  refine (G1.out _ F1.out).mono ?_
  rintro e w2 ⟨rfl, f2⟩
  have F2 := Lib.hid (F1.out.trans1 f2)
  clear f2 G1 F1
  go_wp2_with fail
  refine (G2.out _ F2.out).mono ?_
  rintro e w3 ⟨rfl, f3⟩
  have F3 := Lib.hid (F2.out.trans1 f3)
  clear f3 G2 F2
  go_wp2_with fail
  refine (O1.out _ F3.out).mono ?_
  rintro e w4 ⟨a4, n4, c4, rfl, v4, f4⟩
  have z4 : w4.heap.size < (w4.alloc (.cells #[.slice a4 n4 c4] 30)).heap.size := by simp
  have V4 := Lib.hid (v4.old.frame (Frame.alloc [] w4 (.cells #[.slice a4 n4 c4] 30)) (by simp))
  have B4 := Lib.hid (Blk.new w4 30 #[.slice a4 n4 c4])
  have F4 := Lib.hid ((F3.out.trans1 f4).trans1 (Frame.alloc [] w4 (.cells #[.slice a4 n4 c4] 30)))
  clear v4 f4 O1 F3
  go_wp2_with fail
  generalize w4.alloc (.cells #[.slice a4 n4 c4] 30) = x4 at *
  generalize w4.heap.size = b4 at *
  refine (O2.out _ F4.out).mono ?_
  rintro e w5 ⟨a5, n5, c5, rfl, v5, f5⟩
  have z5 : w5.heap.size < (w5.alloc (.cells #[.slice a5 n5 c5] 30)).heap.size := by simp
  have y5 := f5.size
  have k5 := f5.trans1 (Frame.alloc [] w5 (.cells #[.slice a5 n5 c5] 30))
  have V5 := Lib.hid (v5.old.frame (Frame.alloc [] w5 (.cells #[.slice a5 n5 c5] 30)) (by simp))
  have V4 := Lib.hid (V4.out.frame k5 (by simp))
  have B5 := Lib.hid (Blk.new w5 30 #[.slice a5 n5 c5])
  have B4 := Lib.hid (B4.out.frame k5 (by simp))
  have F5 := Lib.hid (F4.out.trans1 k5)
  clear v5 f5 k5 O2 F4
  have t4 := B4.out.at 0 rfl
  have t5 := B5.out.at 0 rfl
  go_wp2_with fail
  clear t4 t5
  generalize w5.alloc (.cells #[.slice a5 n5 c5] 30) = x5 at *
  generalize w5.heap.size = b5 at *
  have hfg := plus_len f g
  have htg := times_len f g
  have hl1 := V4.out.le
  have hl2 := V5.out.le
  have hmm : f.length * g.length ≤ vs.length * us.length := Nat.mul_le_mul hl1 hl2
  have LN : Hid ((plusL f g).length ≤ 24 ∧ (timesL f g).length ≤ 144) := by have := nm.out; exact ⟨by omega, by omega⟩
  clear hfg htg hl1 hl2 hmm
  have PN := Lib.hid (fun (w' : World) (h4 : FamV w' a4 n4 c4 f vs.length 12) (h5 : FamV w' a5 n5 c5 g us.length 12) (k : Int) (hk : ((plusL f g).length : Int) ≤ k) => plus_new h4 h5 (by have := nm.out; omega) k hk)
  have PO := Lib.hid (fun (w' : World) (h4 : FamV w' a4 n4 c4 f vs.length 12) (h5 : FamV w' a5 n5 c5 g us.length 12) (k : Int) (hk : k < ((plusL f g).length : Int)) => plus_over h4 h5 (by have := nm.out; omega) k hk)
  have PA := Lib.hid (fun (w' : World) (h4 : FamV w' a4 n4 c4 f vs.length 12) (h5 : FamV w' a5 n5 c5 g us.length 12) (k : Int) => plus_all h4 h5 (by have := nm.out; omega) k)
  have TN := Lib.hid (fun (w' : World) (h4 : FamV w' a4 n4 c4 f vs.length 12) (h5 : FamV w' a5 n5 c5 g us.length 12) (k : Int) (hk : ((timesL f g).length : Int) ≤ k) => times_new h4 h5 (by have := nm.out; omega) (by omega) (by omega) (by omega) (by omega) k hk)
  have TO := Lib.hid (fun (w' : World) (h4 : FamV w' a4 n4 c4 f vs.length 12) (h5 : FamV w' a5 n5 c5 g us.length 12) (k : Int) (hk : k < ((timesL f g).length : Int)) => times_over h4 h5 (by have := nm.out; omega) (by omega) (by omega) (by omega) (by omega) k hk)
  refine (PN.out _ V4.out.fam V5.out.fam 5000 (by have := LN.out; omega)).mono ?_
  rintro e w6 ⟨a6, c6, rfl, v6, f6⟩
  have z6 : w6.heap.size < (w6.alloc (.cells #[.slice a6 (plusL f g).length c6] 30)).heap.size := by simp
  have y6 := f6.size
  have k6 := f6.trans1 (Frame.alloc [] w6 (.cells #[.slice a6 (plusL f g).length c6] 30))
  have V6 := Lib.hid (v6.fam.old.frame (Frame.alloc [] w6 (.cells #[.slice a6 (plusL f g).length c6] 30)) (by simp))
  have V4 := Lib.hid (V4.out.frame k6 (by simp))
  have V5 := Lib.hid (V5.out.frame k6 (by simp))
  have B4 := Lib.hid (B4.out.frame k6 (by simp))
  have B5 := Lib.hid (B5.out.frame k6 (by simp))
  have B6 := Lib.hid (Blk.new w6 30 #[.slice a6 (plusL f g).length c6])
  have F6 := Lib.hid (F5.out.trans1 k6)
  have hb6 : w.heap.size ≤ w6.heap.size := Nat.le_trans F5.out.size y6
  clear v6 f6 k6 F5
  have t6 := B6.out.at 0 rfl
  go_wp2_with fail
  clear t6
  generalize w6.alloc (.cells #[.slice a6 (plusL f g).length c6] 30) = x6 at *
  generalize w6.heap.size = b6 at *
  refine (alen_any a6 (plusL f g).length c6 x6).mono ?_
  rintro e w8 ⟨rfl, f8⟩
  have V4 := Lib.hid (V4.out.frame f8 (by simp))
  have V5 := Lib.hid (V5.out.frame f8 (by simp))
  have V6 := Lib.hid (V6.out.frame f8 (by simp))
  have B4 := Lib.hid (B4.out.frame f8 (by simp))
  have B5 := Lib.hid (B5.out.frame f8 (by simp))
  have B6 := Lib.hid (B6.out.frame f8 (by simp))
  have F8 := Lib.hid (F6.out.trans1 f8)
  have y8 := f8.size
  clear f8 F6
  have t4 := B4.out.at 0 rfl
  have t5 := B5.out.at 0 rfl
  go_wp2_with fail
  clear t4 t5
  refine (PN.out _ V4.out.fam V5.out.fam _ (Int.le_refl _)).mono ?_
  rintro e w9 ⟨a9, c9, rfl, v9, f9⟩
  have VAL := ()
  have z9 : w9.heap.size < (w9.alloc (.cells #[.slice a9 (plusL f g).length c9] 30)).heap.size := by simp
  have y9 := f9.size
  have k9 := f9.trans1 (Frame.alloc [] w9 (.cells #[.slice a9 (plusL f g).length c9] 30))
  have V9 := Lib.hid (v9.fam.old.frame (Frame.alloc [] w9 (.cells #[.slice a9 (plusL f g).length c9] 30)) (by simp))
  have V4 := Lib.hid (V4.out.frame k9 (by simp))
  have V5 := Lib.hid (V5.out.frame k9 (by simp))
  have V6 := Lib.hid (V6.out.frame k9 (by simp))
  have B4 := Lib.hid (B4.out.frame k9 (by simp))
  have B5 := Lib.hid (B5.out.frame k9 (by simp))
  have B6 := Lib.hid (B6.out.frame k9 (by simp))
  have B9 := Lib.hid (Blk.new w9 30 #[.slice a9 (plusL f g).length c9])
  have F9 := Lib.hid (F8.out.trans1 k9)
  clear v9 f9 k9 F8 VAL
  have t4 := B4.out.at 0 rfl
  have t5 := B5.out.at 0 rfl
  have e1 : IntKind.i64.wrap (((plusL f g).length : Int) - 1) = ((plusL f g).length : Int) - 1 := IntWalk.i64_in _ (by have := LN.out; omega)
  go_wp2_with fail
  clear t4 t5
  generalize w9.alloc (.cells #[.slice a9 (plusL f g).length c9] 30) = x9 at *
  generalize w9.heap.size = b9 at *
  refine (PO.out _ V4.out.fam V5.out.fam _ (by omega)).mono ?_
  rintro e w10 ⟨rfl, f10⟩
  have k10 := f10.trans1 (Frame.alloc [] w10 (.cells #[.slice none 0 0] 30))
  have V6 := Lib.hid (V6.out.frame k10 (by simp))
  have V9 := Lib.hid (V9.out.frame k10 (by simp))
  have B6 := Lib.hid (B6.out.frame k10 (by simp))
  have B9 := Lib.hid (B9.out.frame k10 (by simp))
  have B10 := Lib.hid (Blk.new w10 30 #[.slice none 0 0])
  have F10 := Lib.hid (F9.out.trans1 k10)
  clear f10 k10 F9 e1
  go_wp2_with fail
  generalize w10.alloc (.cells #[.slice none 0 0] 30) = xq at *
  generalize w10.heap.size = b10 at *
  have M6 := fam_cell5 B6.out
  have M9 := fam_cell5 B9.out
  have M10 := fam_cell5 B10.out
  have SX : Hid (∀ w', Frame [] xq w' → Calls Try.prog 16 #[.agg #[.slice a6 (plusL f g).length c6]] w' (NewSets w' ((plusL f g)))) := fun w' q => asets_any _ _ w' (V6.out.fam.v.frame q) (by have := LN.out; omega)
  have SY : Hid (∀ w', Frame [] xq w' → Calls Try.prog 16 #[.agg #[.slice a9 (plusL f g).length c9]] w' (NewSets w' ((plusL f g)))) := fun w' q => asets_any _ _ w' (V9.out.fam.v.frame q) (by have := LN.out; omega)
  have hc : Hid (((plusL f g)).length ≤ 1000000) := by have := LN.out; show _ ≤ _; omega
  clear PN PO PA TN TO V4 V5 V6 V9 B4 B5 B6 B9 B10 LN nm
  have LL : Hid (∀ (w' : World) (p q : Option Addr) (i j : Nat) (xs ys : List SV), RV w' p xs → RV w' q ys → xs.map (·.l) = (plusL f g) → ys.map (·.l) = (plusL f g) → Calls Try.prog 23 #[.slice p xs.length i, .slice q ys.length j] w' fun e w'' => e = .returned (.bool true) ∧ Frame [] w' w'') := fun w' p q i j xs ys r1 r2 m1 m2 => by
    have h1 := congrArg List.length m1
    have h2 := congrArg List.length m2
    rw [List.length_map] at h1 h2
    have := hc.out
    have h := lists_any p q i j xs ys w' r1 r2 (by omega) (by omega)
    rw [m1, m2] at h
    simpa using h
  go_region_held3 (fun w' => Frame [] xq w') ((repeat first | assumption | exact Frame.refl _ _ | refine Frame.trans1 ?_ (Frame.alloc _ _ _) | refine Frame.trans1 ?_ (Frame.drew _ _) | refine Frame.trans1 ?_ (Frame.drewN _ _ _)))
    ((first
      | (go_at_call 26; refine (alen_any none 0 0 _).mono ?_; rintro e wx ⟨rfl, fx⟩; have FX : Frame [] xq wx := (show Frame [] xq _ from by (repeat first | assumption | exact Frame.refl _ _ | refine Frame.trans1 ?_ (Frame.alloc _ _ _) | refine Frame.trans1 ?_ (Frame.drew _ _) | refine Frame.trans1 ?_ (Frame.drewN _ _ _))).trans1 fx)
      | (go_at_call 9; refine (awake5 _).mono ?_; rintro e wz ⟨rfl, fz⟩; have FZ : Frame [] xq wz := (show Frame [] xq _ from by (repeat first | assumption | exact Frame.refl _ _ | refine Frame.trans1 ?_ (Frame.alloc _ _ _) | refine Frame.trans1 ?_ (Frame.drew _ _) | refine Frame.trans1 ?_ (Frame.drewN _ _ _))).trans1 fz)
      | (go_at_call_of 16 a6; refine (SX.out _ (by (repeat first | assumption | exact Frame.refl _ _ | refine Frame.trans1 ?_ (Frame.alloc _ _ _) | refine Frame.trans1 ?_ (Frame.drew _ _) | refine Frame.trans1 ?_ (Frame.drewN _ _ _)))).mono ?_; rintro e wp ⟨ap, cp, xs, Gp, rfl, op, mp, -, fp, -⟩; have FP : Frame [] xq wp := (show Frame [] xq _ from by (repeat first | assumption | exact Frame.refl _ _ | refine Frame.trans1 ?_ (Frame.alloc _ _ _) | refine Frame.trans1 ?_ (Frame.drew _ _) | refine Frame.trans1 ?_ (Frame.drewN _ _ _))).trans1 fp; have RP := Lib.hid op.rv; have MP := Lib.hid mp; clear op mp)
      | (go_at_call_of 16 a9; refine (SY.out _ (by (repeat first | assumption | exact Frame.refl _ _ | refine Frame.trans1 ?_ (Frame.alloc _ _ _) | refine Frame.trans1 ?_ (Frame.drew _ _) | refine Frame.trans1 ?_ (Frame.drewN _ _ _)))).mono ?_; rintro e wr ⟨ar, cr, ys, Gr, rfl, or, mr, -, fr, -⟩; have FR : Frame [] xq wr := (show Frame [] xq _ from by (repeat first | assumption | exact Frame.refl _ _ | refine Frame.trans1 ?_ (Frame.alloc _ _ _) | refine Frame.trans1 ?_ (Frame.drew _ _) | refine Frame.trans1 ?_ (Frame.drewN _ _ _))).trans1 fr; have RR := Lib.hid or.rv; have MR := Lib.hid mr; have RP2 := Lib.hid (RP.out.frame fr); clear or mr)
      | (go_at_call 23; refine (LL.out _ ap ar cp cr xs ys RP2.out RR.out MP.out MR.out).mono ?_; rintro e wl ⟨rfl, fl⟩; have FL : Frame [] xq wl := (show Frame [] xq _ from by (repeat first | assumption | exact Frame.refl _ _ | refine Frame.trans1 ?_ (Frame.alloc _ _ _) | refine Frame.trans1 ?_ (Frame.drew _ _) | refine Frame.trans1 ?_ (Frame.drewN _ _ _))).trans1 fl)))
  all_goals
    go_wp2_with fail
    go_ret
    exact ⟨rfl, F10.out.trans1 (FZ.trans1 (by (repeat first | assumption | exact Frame.refl _ _ | refine Frame.trans1 ?_ (Frame.alloc _ _ _) | refine Frame.trans1 ?_ (Frame.drew _ _) | refine Frame.trans1 ?_ (Frame.drewN _ _ _))))⟩
set_option maxHeartbeats 8000000 in
set_option maxRecDepth 100000 in
theorem antiBudget_times (a b : Option Addr) (c e : Nat) (vs us : List SV) (w : World) (h1 : Arg5 w a vs) (h2 : Arg5 w b us) (hs : SmallW [⟨a, c, vs⟩, ⟨b, e, us⟩]) (g1 : goodL (vs.map (·.l)) = true) (g2 : goodL (us.map (·.l)) = true) :
    Calls Try.prog 6 #[.slice a vs.length c, .slice b us.length e, .bool true] w fun e w' => e = .returned (.bool true) ∧ Frame [] w w' := by
  have SS := small_two a b c e vs us w h1 h2
  rw [decide_eq_true hs] at SS
  have HS := Lib.hid SS
  clear SS
  obtain ⟨⟨p1, p2⟩, q1, q2⟩ := small_parts2 hs
  have R1 := Lib.hid (h1.rv p2)
  have R2 := Lib.hid (h2.rv q2)
  have G1 : Hid (∀ w', Frame [] w w' → Calls Try.prog 14 #[.slice a vs.length c] w' fun e w'' => e = .returned (.bool true) ∧ Frame [] w' w'') := fun w' f => by
    have := good_any a c vs w' (R1.out.frame f) (by omega)
    rwa [g1] at this
  have G2 : Hid (∀ w', Frame [] w w' → Calls Try.prog 14 #[.slice b us.length e] w' fun e w'' => e = .returned (.bool true) ∧ Frame [] w' w'') := fun w' f => by
    have := good_any b e us w' (R2.out.frame f) (by omega)
    rwa [g2] at this
  have O1 : Hid (∀ w', Frame [] w w' → Calls Try.prog 15 #[.slice a vs.length c] w' (OfEnd (leastR (vs.map (·.l))) vs.length 12 w')) := fun w' f => of_good a c vs w' (R1.out.frame f) p1 p2 g1
  have O2 : Hid (∀ w', Frame [] w w' → Calls Try.prog 15 #[.slice b us.length e] w' (OfEnd (leastR (us.map (·.l))) us.length 12 w')) := fun w' f => of_good b e us w' (R2.out.frame f) q1 q2 g2
  have nm : Hid (vs.length + us.length ≤ 24 ∧ vs.length * us.length ≤ 144) := ⟨by omega, Nat.mul_le_mul p1 q1⟩
  generalize leastR (vs.map (·.l)) = f at *
  generalize leastR (us.map (·.l)) = g at *
  clear h1 h2 hs g1 g2 p2 q2 R1 R2
  go_enter Try.func6, Try.ntmps6
  go_wp2_with fail
  refine HS.out.mono ?_
  rintro e w1 ⟨rfl, f1⟩
  have F1 := Lib.hid f1
  clear f1 HS
  go_wp2_with fail
  refine (G1.out _ F1.out).mono ?_
  rintro e w2 ⟨rfl, f2⟩
  have F2 := Lib.hid (F1.out.trans1 f2)
  clear f2 G1 F1
  go_wp2_with fail
  refine (G2.out _ F2.out).mono ?_
  rintro e w3 ⟨rfl, f3⟩
  have F3 := Lib.hid (F2.out.trans1 f3)
  clear f3 G2 F2
  go_wp2_with fail
  refine (O1.out _ F3.out).mono ?_
  rintro e w4 ⟨a4, n4, c4, rfl, v4, f4⟩
  have z4 : w4.heap.size < (w4.alloc (.cells #[.slice a4 n4 c4] 30)).heap.size := by simp
  have V4 := Lib.hid (v4.old.frame (Frame.alloc [] w4 (.cells #[.slice a4 n4 c4] 30)) (by simp))
  have B4 := Lib.hid (Blk.new w4 30 #[.slice a4 n4 c4])
  have F4 := Lib.hid ((F3.out.trans1 f4).trans1 (Frame.alloc [] w4 (.cells #[.slice a4 n4 c4] 30)))
  clear v4 f4 O1 F3
  go_wp2_with fail
  generalize w4.alloc (.cells #[.slice a4 n4 c4] 30) = x4 at *
  generalize w4.heap.size = b4 at *
  refine (O2.out _ F4.out).mono ?_
  rintro e w5 ⟨a5, n5, c5, rfl, v5, f5⟩
  have z5 : w5.heap.size < (w5.alloc (.cells #[.slice a5 n5 c5] 30)).heap.size := by simp
  have y5 := f5.size
  have k5 := f5.trans1 (Frame.alloc [] w5 (.cells #[.slice a5 n5 c5] 30))
  have V5 := Lib.hid (v5.old.frame (Frame.alloc [] w5 (.cells #[.slice a5 n5 c5] 30)) (by simp))
  have V4 := Lib.hid (V4.out.frame k5 (by simp))
  have B5 := Lib.hid (Blk.new w5 30 #[.slice a5 n5 c5])
  have B4 := Lib.hid (B4.out.frame k5 (by simp))
  have F5 := Lib.hid (F4.out.trans1 k5)
  clear v5 f5 k5 O2 F4
  have t4 := B4.out.at 0 rfl
  have t5 := B5.out.at 0 rfl
  go_wp2_with fail
  clear t4 t5
  generalize w5.alloc (.cells #[.slice a5 n5 c5] 30) = x5 at *
  generalize w5.heap.size = b5 at *
  have hfg := plus_len f g
  have htg := times_len f g
  have hl1 := V4.out.le
  have hl2 := V5.out.le
  have hmm : f.length * g.length ≤ vs.length * us.length := Nat.mul_le_mul hl1 hl2
  have LN : Hid ((plusL f g).length ≤ 24 ∧ (timesL f g).length ≤ 144) := by have := nm.out; exact ⟨by omega, by omega⟩
  clear hfg htg hl1 hl2 hmm
  have PN := Lib.hid (fun (w' : World) (h4 : FamV w' a4 n4 c4 f vs.length 12) (h5 : FamV w' a5 n5 c5 g us.length 12) (k : Int) (hk : ((plusL f g).length : Int) ≤ k) => plus_new h4 h5 (by have := nm.out; omega) k hk)
  have PO := Lib.hid (fun (w' : World) (h4 : FamV w' a4 n4 c4 f vs.length 12) (h5 : FamV w' a5 n5 c5 g us.length 12) (k : Int) (hk : k < ((plusL f g).length : Int)) => plus_over h4 h5 (by have := nm.out; omega) k hk)
  have PA := Lib.hid (fun (w' : World) (h4 : FamV w' a4 n4 c4 f vs.length 12) (h5 : FamV w' a5 n5 c5 g us.length 12) (k : Int) => plus_all h4 h5 (by have := nm.out; omega) k)
  have TN := Lib.hid (fun (w' : World) (h4 : FamV w' a4 n4 c4 f vs.length 12) (h5 : FamV w' a5 n5 c5 g us.length 12) (k : Int) (hk : ((timesL f g).length : Int) ≤ k) => times_new h4 h5 (by have := nm.out; omega) (by omega) (by omega) (by omega) (by omega) k hk)
  have TO := Lib.hid (fun (w' : World) (h4 : FamV w' a4 n4 c4 f vs.length 12) (h5 : FamV w' a5 n5 c5 g us.length 12) (k : Int) (hk : k < ((timesL f g).length : Int)) => times_over h4 h5 (by have := nm.out; omega) (by omega) (by omega) (by omega) (by omega) k hk)
  refine (PN.out _ V4.out.fam V5.out.fam 5000 (by have := LN.out; omega)).mono ?_
  rintro e w6 ⟨a6, c6, rfl, v6, f6⟩
  have z6 : w6.heap.size < (w6.alloc (.cells #[.slice a6 (plusL f g).length c6] 30)).heap.size := by simp
  have y6 := f6.size
  have k6 := f6.trans1 (Frame.alloc [] w6 (.cells #[.slice a6 (plusL f g).length c6] 30))
  have V6 := Lib.hid (v6.fam.old.frame (Frame.alloc [] w6 (.cells #[.slice a6 (plusL f g).length c6] 30)) (by simp))
  have V4 := Lib.hid (V4.out.frame k6 (by simp))
  have V5 := Lib.hid (V5.out.frame k6 (by simp))
  have B4 := Lib.hid (B4.out.frame k6 (by simp))
  have B5 := Lib.hid (B5.out.frame k6 (by simp))
  have B6 := Lib.hid (Blk.new w6 30 #[.slice a6 (plusL f g).length c6])
  have F6 := Lib.hid (F5.out.trans1 k6)
  have hb6 : w.heap.size ≤ w6.heap.size := Nat.le_trans F5.out.size y6
  clear v6 f6 k6 F5
  have t4 := B4.out.at 0 rfl
  have t5 := B5.out.at 0 rfl
  go_wp2_with fail
  clear t4 t5
  generalize w6.alloc (.cells #[.slice a6 (plusL f g).length c6] 30) = x6 at *
  generalize w6.heap.size = b6 at *
  refine (TN.out _ V4.out.fam V5.out.fam 5000 (by have := LN.out; omega)).mono ?_
  rintro e w7 ⟨a6, c6, rfl, v7, f7⟩
  have s7 : Frame [b6] w7 (w7.setCell ⟨b6, 0, none⟩ (.slice a6 (timesL f g).length c6)) := Frame.setCell _ _ _ (by simp)
  have V4 := Lib.hid ((V4.out.frame f7 (by simp)).frame s7 (fun b hb h => by simp at h; omega))
  have V5 := Lib.hid ((V5.out.frame f7 (by simp)).frame s7 (fun b hb h => by simp at h; omega))
  have V6 := Lib.hid (v7.frame s7 (fun b hb h => by simp at h; omega)).fam.old
  have B4 := Lib.hid ((B4.out.frame f7 (by simp)).frame s7 (by simp; omega))
  have B5 := Lib.hid ((B5.out.frame f7 (by simp)).frame s7 (by simp; omega))
  have B6a := Lib.hid (B6.out.frame f7 (by simp))
  have B6 := Lib.hid (B6a.out.set 0 (.slice a6 (timesL f g).length c6))
  have t6 := B6a.out.at 0 rfl
  have u6 := B6a.out.frozen 0
  have y7 := f7.size
  have F7 := Lib.hid ((F6.out.trans1 f7).trans s7 (fun x hx => .inr (by simp at hx; omega)))
  have z7 : b6 < (w7.setCell ⟨b6, 0, none⟩ (.slice a6 (timesL f g).length c6)).heap.size := by simp [World.setCell]; omega
  clear s7 v7 f7 F6 B6a
  have t6n := B6.out.at 0 rfl
  go_wp2_with fail
  clear t6 u6 t6n
  generalize w7.setCell ⟨b6, 0, none⟩ (.slice a6 (timesL f g).length c6) = x7 at *
  refine (alen_any a6 (timesL f g).length c6 x7).mono ?_
  rintro e w8 ⟨rfl, f8⟩
  have V4 := Lib.hid (V4.out.frame f8 (by simp))
  have V5 := Lib.hid (V5.out.frame f8 (by simp))
  have V6 := Lib.hid (V6.out.frame f8 (by simp))
  have B4 := Lib.hid (B4.out.frame f8 (by simp))
  have B5 := Lib.hid (B5.out.frame f8 (by simp))
  have B6 := Lib.hid (B6.out.frame f8 (by simp))
  have F8 := Lib.hid (F7.out.trans1 f8)
  have y8 := f8.size
  clear f8 F7
  have t4 := B4.out.at 0 rfl
  have t5 := B5.out.at 0 rfl
  go_wp2_with fail
  clear t4 t5
  refine (PA.out _ V4.out.fam V5.out.fam _).mono ?_
  rintro e w9 ⟨a9, n9, c9, j9, rfl, f9⟩
  have z9 : w9.heap.size < (w9.alloc (.cells #[.slice a9 n9 c9] 30)).heap.size := by simp
  have y9 := f9.size
  have k9 := f9.trans1 (Frame.alloc [] w9 (.cells #[.slice a9 n9 c9] 30))
  have V4 := Lib.hid (V4.out.frame k9 (by simp))
  have V5 := Lib.hid (V5.out.frame k9 (by simp))
  have V6 := Lib.hid (V6.out.frame k9 (by simp))
  have B4 := Lib.hid (B4.out.frame k9 (by simp))
  have B5 := Lib.hid (B5.out.frame k9 (by simp))
  have B6 := Lib.hid (B6.out.frame k9 (by simp))
  have B9 := Lib.hid (Blk.new w9 30 #[.slice a9 n9 c9])
  have F9 := Lib.hid (F8.out.trans1 k9)
  clear f9 k9 F8
  have t4 := B4.out.at 0 rfl
  have t5 := B5.out.at 0 rfl
  have e1 : IntKind.i64.wrap (((timesL f g).length : Int) - 1) = ((timesL f g).length : Int) - 1 := IntWalk.i64_in _ (by have := LN.out; omega)
  go_wp2_with fail
  clear t4 t5
  generalize w9.alloc (.cells #[.slice a9 n9 c9] 30) = x9 at *
  generalize w9.heap.size = b9 at *
  refine (PA.out _ V4.out.fam V5.out.fam _).mono ?_
  rintro e w10 ⟨a10, n10, c10, j10, rfl, f10⟩
  have z10 : w10.heap.size < (w10.alloc (.cells #[.slice a10 n10 c10] 30)).heap.size := by simp
  have y10 := f10.size
  have k10 := f10.trans1 (Frame.alloc [] w10 (.cells #[.slice a10 n10 c10] 30))
  have V4 := Lib.hid (V4.out.frame k10 (by simp))
  have V5 := Lib.hid (V5.out.frame k10 (by simp))
  have V6 := Lib.hid (V6.out.frame k10 (by simp))
  have B4 := Lib.hid (B4.out.frame k10 (by simp))
  have B5 := Lib.hid (B5.out.frame k10 (by simp))
  have B6 := Lib.hid (B6.out.frame k10 (by simp))
  have B9 := Lib.hid (B9.out.frame k10 (by simp))
  have B10 := Lib.hid (Blk.new w10 30 #[.slice a10 n10 c10])
  have F10 := Lib.hid (F9.out.trans1 k10)
  clear f10 k10 F9
  have t4 := B4.out.at 0 rfl
  have t5 := B5.out.at 0 rfl
  go_wp2_with fail
  clear t4 t5
  generalize w10.alloc (.cells #[.slice a10 n10 c10] 30) = x10 at *
  generalize w10.heap.size = b10 at *
  refine (TN.out _ V4.out.fam V5.out.fam _ (Int.le_refl _)).mono ?_
  rintro e w11 ⟨a9, c9, rfl, v11, f11⟩
  have s11 : Frame [b9] w11 (w11.setCell ⟨b9, 0, none⟩ (.slice a9 (timesL f g).length c9)) := Frame.setCell _ _ _ (by simp)
  have V4 := Lib.hid ((V4.out.frame f11 (by simp)).frame s11 (fun b hb h => by simp at h; omega))
  have V5 := Lib.hid ((V5.out.frame f11 (by simp)).frame s11 (fun b hb h => by simp at h; omega))
  have V6 := Lib.hid ((V6.out.frame f11 (by simp)).frame s11 (fun b hb h => by simp at h; omega))
  have V9 := Lib.hid (v11.frame s11 (fun b hb h => by simp at h; omega))
  have B4 := Lib.hid ((B4.out.frame f11 (by simp)).frame s11 (by simp; omega))
  have B5 := Lib.hid ((B5.out.frame f11 (by simp)).frame s11 (by simp; omega))
  have B6 := Lib.hid ((B6.out.frame f11 (by simp)).frame s11 (by simp; omega))
  have B9a := Lib.hid (B9.out.frame f11 (by simp))
  have B9 := Lib.hid (B9a.out.set 0 (.slice a9 (timesL f g).length c9))
  have B10 := Lib.hid ((B10.out.frame f11 (by simp)).frame s11 (by simp; omega))
  have F11 := Lib.hid ((F10.out.trans1 f11).trans s11 (fun x hx => .inr (by simp at hx; omega)))
  have t9 := B9a.out.at 0 rfl
  have u9 := B9a.out.frozen 0
  clear s11 v11 f11 F10 B9a
  have t4 := B4.out.at 0 rfl
  have t5 := B5.out.at 0 rfl
  go_wp2_with fail
  clear t9 u9
  clear t4 t5
  generalize w11.setCell ⟨b9, 0, none⟩ (.slice a9 (timesL f g).length c9) = x11 at *
  refine (TO.out _ V4.out.fam V5.out.fam _ (by omega)).mono ?_
  rintro e w12 ⟨rfl, f12⟩
  have s12 : Frame [b10] w12 (w12.setCell ⟨b10, 0, none⟩ (.slice none 0 0)) := Frame.setCell _ _ _ (by simp)
  have V6 := Lib.hid ((V6.out.frame f12 (by simp)).frame s12 (fun b hb h => by simp at h; omega))
  have V9 := Lib.hid ((V9.out.frame f12 (by simp)).frame s12 (fun b hb h => by simp at h; omega))
  have B6 := Lib.hid ((B6.out.frame f12 (by simp)).frame s12 (by simp; omega))
  have B9 := Lib.hid ((B9.out.frame f12 (by simp)).frame s12 (by simp; omega))
  have B10a := Lib.hid (B10.out.frame f12 (by simp))
  have B10 := Lib.hid (B10a.out.set 0 (.slice none 0 0))
  have F12 := Lib.hid ((F11.out.trans1 f12).trans s12 (fun x hx => .inr (by simp at hx; omega)))
  have t10 := B10a.out.at 0 rfl
  have u10 := B10a.out.frozen 0
  clear s12 f12 F11 B10a e1
  go_wp2_with fail
  clear t10 u10
  generalize w12.setCell ⟨b10, 0, none⟩ (.slice none 0 0) = xq at *
  have M6 := fam_cell5 B6.out
  have M9 := fam_cell5 B9.out
  have M10 := fam_cell5 B10.out
  have SX : Hid (∀ w', Frame [] xq w' → Calls Try.prog 16 #[.agg #[.slice a6 (timesL f g).length c6]] w' (NewSets w' ((timesL f g)))) := fun w' q => asets_any _ _ w' (V6.out.fam.v.frame q) (by have := LN.out; omega)
  have SY : Hid (∀ w', Frame [] xq w' → Calls Try.prog 16 #[.agg #[.slice a9 (timesL f g).length c9]] w' (NewSets w' ((timesL f g)))) := fun w' q => asets_any _ _ w' (V9.out.fam.v.frame q) (by have := LN.out; omega)
  have hc : Hid (((timesL f g)).length ≤ 1000000) := by have := LN.out; show _ ≤ _; omega
  clear PN PO PA TN TO V4 V5 V6 V9 B4 B5 B6 B9 B10 LN nm
  have LL : Hid (∀ (w' : World) (p q : Option Addr) (i j : Nat) (xs ys : List SV), RV w' p xs → RV w' q ys → xs.map (·.l) = (timesL f g) → ys.map (·.l) = (timesL f g) → Calls Try.prog 23 #[.slice p xs.length i, .slice q ys.length j] w' fun e w'' => e = .returned (.bool true) ∧ Frame [] w' w'') := fun w' p q i j xs ys r1 r2 m1 m2 => by
    have h1 := congrArg List.length m1
    have h2 := congrArg List.length m2
    rw [List.length_map] at h1 h2
    have := hc.out
    have h := lists_any p q i j xs ys w' r1 r2 (by omega) (by omega)
    rw [m1, m2] at h
    simpa using h
  go_region_held3 (fun w' => Frame [] xq w') ((repeat first | assumption | exact Frame.refl _ _ | refine Frame.trans1 ?_ (Frame.alloc _ _ _) | refine Frame.trans1 ?_ (Frame.drew _ _) | refine Frame.trans1 ?_ (Frame.drewN _ _ _)))
    ((first
      | (go_at_call 26; refine (alen_any none 0 0 _).mono ?_; rintro e wx ⟨rfl, fx⟩; have FX : Frame [] xq wx := (show Frame [] xq _ from by (repeat first | assumption | exact Frame.refl _ _ | refine Frame.trans1 ?_ (Frame.alloc _ _ _) | refine Frame.trans1 ?_ (Frame.drew _ _) | refine Frame.trans1 ?_ (Frame.drewN _ _ _))).trans1 fx)
      | (go_at_call 9; refine (awake5 _).mono ?_; rintro e wz ⟨rfl, fz⟩; have FZ : Frame [] xq wz := (show Frame [] xq _ from by (repeat first | assumption | exact Frame.refl _ _ | refine Frame.trans1 ?_ (Frame.alloc _ _ _) | refine Frame.trans1 ?_ (Frame.drew _ _) | refine Frame.trans1 ?_ (Frame.drewN _ _ _))).trans1 fz)
      | (go_at_call_of 16 a6; refine (SX.out _ (by (repeat first | assumption | exact Frame.refl _ _ | refine Frame.trans1 ?_ (Frame.alloc _ _ _) | refine Frame.trans1 ?_ (Frame.drew _ _) | refine Frame.trans1 ?_ (Frame.drewN _ _ _)))).mono ?_; rintro e wp ⟨ap, cp, xs, Gp, rfl, op, mp, -, fp, -⟩; have FP : Frame [] xq wp := (show Frame [] xq _ from by (repeat first | assumption | exact Frame.refl _ _ | refine Frame.trans1 ?_ (Frame.alloc _ _ _) | refine Frame.trans1 ?_ (Frame.drew _ _) | refine Frame.trans1 ?_ (Frame.drewN _ _ _))).trans1 fp; have RP := Lib.hid op.rv; have MP := Lib.hid mp; clear op mp)
      | (go_at_call_of 16 a9; refine (SY.out _ (by (repeat first | assumption | exact Frame.refl _ _ | refine Frame.trans1 ?_ (Frame.alloc _ _ _) | refine Frame.trans1 ?_ (Frame.drew _ _) | refine Frame.trans1 ?_ (Frame.drewN _ _ _)))).mono ?_; rintro e wr ⟨ar, cr, ys, Gr, rfl, or, mr, -, fr, -⟩; have FR : Frame [] xq wr := (show Frame [] xq _ from by (repeat first | assumption | exact Frame.refl _ _ | refine Frame.trans1 ?_ (Frame.alloc _ _ _) | refine Frame.trans1 ?_ (Frame.drew _ _) | refine Frame.trans1 ?_ (Frame.drewN _ _ _))).trans1 fr; have RR := Lib.hid or.rv; have MR := Lib.hid mr; have RP2 := Lib.hid (RP.out.frame fr); clear or mr)
      | (go_at_call 23; refine (LL.out _ ap ar cp cr xs ys RP2.out RR.out MP.out MR.out).mono ?_; rintro e wl ⟨rfl, fl⟩; have FL : Frame [] xq wl := (show Frame [] xq _ from by (repeat first | assumption | exact Frame.refl _ _ | refine Frame.trans1 ?_ (Frame.alloc _ _ _) | refine Frame.trans1 ?_ (Frame.drew _ _) | refine Frame.trans1 ?_ (Frame.drewN _ _ _))).trans1 fl)))
  all_goals
    go_wp2_with fail
    go_ret
    exact ⟨rfl, F12.out.trans1 (FZ.trans1 (by (repeat first | assumption | exact Frame.refl _ _ | refine Frame.trans1 ?_ (Frame.alloc _ _ _) | refine Frame.trans1 ?_ (Frame.drew _ _) | refine Frame.trans1 ?_ (Frame.drewN _ _ _))))⟩
end Go.Proofs.Ytojfemaamhampaa
