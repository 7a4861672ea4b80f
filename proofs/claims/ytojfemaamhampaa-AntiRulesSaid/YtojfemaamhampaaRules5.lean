/- The function values of AntiRules. -/
import Derived.Test.YtojfemaamhampaaLaw6
namespace Go.Proofs.Ytojfemaamhampaa
open Go.RowKit
set_option linter.unusedSimpArgs false
set_option linter.unusedVariables false

theorem FamV.mono {w : World} {a : Option Addr} {n c N M N' M' : Nat} {f : List (List Int)} (h : FamV w a n c f N M) (h1 : N ≤ N') (h2 : M ≤ M') : FamV w a n c f N' M' := ⟨h.v, h.up, Nat.le_trans h.le h1, fun s hs => Nat.le_trans (h.sh s hs) h2⟩
def FEnd (f : List (List Int)) (N M : Nat) (w : World) (e : Ending) (w' : World) : Prop := ∃ a n c, e = .returned (.agg #[.slice a n c]) ∧ FamV w' a n c f N M ∧ Frame [] w w'
theorem FamV.len {w : World} {a : Option Addr} {n c N M : Nat} {f : List (List Int)} (h : FamV w a n c f N M) : n = f.length := by
  obtain ⟨a', c', vs, h1, h2, h3⟩ := h.v
  simp only [Value.agg.injEq, Array.mk.injEq, List.cons.injEq, and_true, Value.slice.injEq] at h1
  rw [h1.2.1, ← h3, List.length_map]
set_option maxHeartbeats 4000000 in
set_option maxRecDepth 100000 in
theorem rplus_any {a b : Option Addr} {n m c d N M P Q : Nat} {f g : List (List Int)} {w : World} (hf : FamV w a n c f N P) (hg : FamV w b m d g M Q) (hN : N + M ≤ 5000) :
    Calls Try.prog 18 #[.agg #[.slice a n c], .agg #[.slice b m d]] w (FEnd (plusL f g) (N + M) (max P Q) w) := by
  have fr : Hid (Frame [] w (((w.alloc (.cells #[.slice a n c] 30)).alloc (.cells #[.slice b m d] 30)).alloc (.cells #[.slice none 0 0] 30))) := by show Frame [] w _; (repeat first | assumption | exact Frame.refl _ _ | refine Frame.trans1 ?_ (Frame.alloc _ _ _) | refine Frame.trans1 ?_ (Frame.drew _ _) | refine Frame.trans1 ?_ (Frame.drewN _ _ _))
  have C := Lib.hid (fun (w' : World) (q : Frame [] w w') => plus_new ((hf.frame q).mono (Nat.le_refl _) (Nat.le_max_left P Q)) ((hg.frame q).mono (Nat.le_refl _) (Nat.le_max_right P Q)) hN 5000 (by have h1 := plus_len f g; have h2 := hf.le; have h3 := hg.le; omega))
  have B2 : Hid (Blk (((w.alloc (.cells #[.slice a n c] 30)).alloc (.cells #[.slice b m d] 30)).alloc (.cells #[.slice none 0 0] 30)) (w.heap.size + 1 + 1) 30 #[.slice none 0 0]) := by
    have := Blk.new ((w.alloc (.cells #[.slice a n c] 30)).alloc (.cells #[.slice b m d] 30)) 30 #[.slice none 0 0]
    simp only [World.size_alloc] at this
    exact this
  have t0 := (((Blk.new w 30 #[.slice a n c]).alloc (.cells #[.slice b m d] 30)).alloc (.cells #[.slice none 0 0] 30)).at 0 rfl
  have t1 : (((w.alloc (.cells #[.slice a n c] 30)).alloc (.cells #[.slice b m d] 30)).alloc (.cells #[.slice none 0 0] 30)).cell? ⟨w.heap.size + 1, 0, none⟩ = some (.slice b m d) := by
    have := ((Blk.new (w.alloc (.cells #[.slice a n c] 30)) 30 #[.slice b m d]).alloc (.cells #[.slice none 0 0] 30)).at 0 rfl
    simp only [World.size_alloc] at this
    exact this
  go_enter Try.func18, Try.ntmps18
  go_wp2_with fail
  clear t0 t1
  generalize ((w.alloc (.cells #[.slice a n c] 30)).alloc (.cells #[.slice b m d] 30)).alloc (.cells #[.slice none 0 0] 30) = x at *
  refine (C.out x fr.out).mono ?_
  rintro e w1 ⟨a1, c1, rfl, v1, f1⟩
  have y1 := f1.size
  have B3 := B2.out.frame f1 (by simp)
  have k1 := B3.alloc (.cells #[.slice a1 (plusL f g).length c1] 30)
  have bx := k1.at 0 rfl
  have bf := k1.frozen 0
  have HB := Lib.hid k1
  have HV := Lib.hid (v1.frame (Frame.alloc [] w1 (.cells #[.slice a1 (plusL f g).length c1] 30)) (by simp))
  have F1 := Lib.hid ((fr.out.trans1 f1).trans1 (Frame.alloc [] w1 (.cells #[.slice a1 (plusL f g).length c1] 30)))
  have hlt := B2.out.lt
  clear B3 k1 v1 f1
  go_wp2_with fail
  refine bodyPost_ret (results_fam1 rfl _ _ _ _ rfl (HB.out.set 0 _)) rfl ?_
  have hF : Frame [w.heap.size + 1 + 1] _ ((w1.alloc (.cells #[.slice a1 (plusL f g).length c1] 30)).setCell ⟨w.heap.size + 1 + 1, 0, none⟩ (.slice a1 (plusL f g).length c1)) := Frame.setCell _ _ _ (by simp)
  exact ⟨_, _, _, rfl, (HV.out.frame hF fun b hb h => by simp at h; omega).fam, F1.out.setNew _ _ (by show _ ≤ w.heap.size + 1 + 1; omega)⟩
set_option maxHeartbeats 4000000 in
set_option maxRecDepth 100000 in
theorem rtimes_any {a b : Option Addr} {n m c d N M P Q : Nat} {f g : List (List Int)} {w : World} (hf : FamV w a n c f N P) (hg : FamV w b m d g M Q) (hN : N * M ≤ 5000) (hN1 : N ≤ 100000) (hM1 : M ≤ 100000) (hP : P ≤ 500) (hQ : Q ≤ 500) :
    Calls Try.prog 20 #[.agg #[.slice a n c], .agg #[.slice b m d]] w (FEnd (timesL f g) (N * M) (P + Q) w) := by
  have fr : Hid (Frame [] w (((w.alloc (.cells #[.slice a n c] 30)).alloc (.cells #[.slice b m d] 30)).alloc (.cells #[.slice none 0 0] 30))) := by show Frame [] w _; (repeat first | assumption | exact Frame.refl _ _ | refine Frame.trans1 ?_ (Frame.alloc _ _ _) | refine Frame.trans1 ?_ (Frame.drew _ _) | refine Frame.trans1 ?_ (Frame.drewN _ _ _))
  have C := Lib.hid (fun (w' : World) (q : Frame [] w w') => times_new (hf.frame q) (hg.frame q) hN hN1 hM1 hP hQ 5000 (by have h1 := times_len f g; have h4 : f.length * g.length ≤ N * M := Nat.mul_le_mul hf.le hg.le; omega))
  have B2 : Hid (Blk (((w.alloc (.cells #[.slice a n c] 30)).alloc (.cells #[.slice b m d] 30)).alloc (.cells #[.slice none 0 0] 30)) (w.heap.size + 1 + 1) 30 #[.slice none 0 0]) := by
    have := Blk.new ((w.alloc (.cells #[.slice a n c] 30)).alloc (.cells #[.slice b m d] 30)) 30 #[.slice none 0 0]
    simp only [World.size_alloc] at this
    exact this
  have t0 := (((Blk.new w 30 #[.slice a n c]).alloc (.cells #[.slice b m d] 30)).alloc (.cells #[.slice none 0 0] 30)).at 0 rfl
  have t1 : (((w.alloc (.cells #[.slice a n c] 30)).alloc (.cells #[.slice b m d] 30)).alloc (.cells #[.slice none 0 0] 30)).cell? ⟨w.heap.size + 1, 0, none⟩ = some (.slice b m d) := by
    have := ((Blk.new (w.alloc (.cells #[.slice a n c] 30)) 30 #[.slice b m d]).alloc (.cells #[.slice none 0 0] 30)).at 0 rfl
    simp only [World.size_alloc] at this
    exact this
  go_enter Try.func20, Try.ntmps20
  go_wp2_with fail
  clear t0 t1
  generalize ((w.alloc (.cells #[.slice a n c] 30)).alloc (.cells #[.slice b m d] 30)).alloc (.cells #[.slice none 0 0] 30) = x at *
  refine (C.out x fr.out).mono ?_
  rintro e w1 ⟨a1, c1, rfl, v1, f1⟩
  have y1 := f1.size
  have B3 := B2.out.frame f1 (by simp)
  have k1 := B3.alloc (.cells #[.slice a1 (timesL f g).length c1] 30)
  have bx := k1.at 0 rfl
  have bf := k1.frozen 0
  have HB := Lib.hid k1
  have HV := Lib.hid (v1.frame (Frame.alloc [] w1 (.cells #[.slice a1 (timesL f g).length c1] 30)) (by simp))
  have F1 := Lib.hid ((fr.out.trans1 f1).trans1 (Frame.alloc [] w1 (.cells #[.slice a1 (timesL f g).length c1] 30)))
  have hlt := B2.out.lt
  clear B3 k1 v1 f1
  go_wp2_with fail
  refine bodyPost_ret (results_fam1 rfl _ _ _ _ rfl (HB.out.set 0 _)) rfl ?_
  have hF : Frame [w.heap.size + 1 + 1] _ ((w1.alloc (.cells #[.slice a1 (timesL f g).length c1] 30)).setCell ⟨w.heap.size + 1 + 1, 0, none⟩ (.slice a1 (timesL f g).length c1)) := Frame.setCell _ _ _ (by simp)
  exact ⟨_, _, _, rfl, (HV.out.frame hF fun b hb h => by simp at h; omega).fam, F1.out.setNew _ _ (by show _ ≤ w.heap.size + 1 + 1; omega)⟩
set_option maxHeartbeats 4000000 in
set_option maxRecDepth 100000 in
theorem rsame5_any {a b : Option Addr} {n m c d N M P Q : Nat} {f g : List (List Int)} {w : World} (hf : FamV w a n c f N P) (hg : FamV w b m d g M Q) (hN : N ≤ 5000) (hM : M ≤ 5000) (hfg : f = g) :
    Calls Try.prog 22 #[.agg #[.slice a n c], .agg #[.slice b m d]] w fun e w' => e = .returned (.bool true) ∧ Frame [] w w' := by
  have fr : Hid (Frame [] w ((w.alloc (.cells #[.slice a n c] 30)).alloc (.cells #[.slice b m d] 30))) := by show Frame [] w _; (repeat first | assumption | exact Frame.refl _ _ | refine Frame.trans1 ?_ (Frame.alloc _ _ _) | refine Frame.trans1 ?_ (Frame.drew _ _) | refine Frame.trans1 ?_ (Frame.drewN _ _ _))
  have B0 := (Blk.new w 30 #[.slice a n c]).alloc (.cells #[.slice b m d] 30)
  have B1 := Blk.new (w.alloc (.cells #[.slice a n c] 30)) 30 #[.slice b m d]
  simp only [World.size_alloc] at B1
  have M0 : ∀ w', Frame [] ((w.alloc (.cells #[.slice a n c] 30)).alloc (.cells #[.slice b m d] 30)) w' → w'.cell? ⟨w.heap.size, 0, none⟩ = some (.slice a n c) := fun w' q => (B0.frame q (by simp)).at 0 rfl
  have M1 : ∀ w', Frame [] ((w.alloc (.cells #[.slice a n c] 30)).alloc (.cells #[.slice b m d] 30)) w' → w'.cell? ⟨w.heap.size + 1, 0, none⟩ = some (.slice b m d) := fun w' q => (B1.frame q (by simp)).at 0 rfl
  have lf := hf.le
  have lg := hg.le
  have SX : Hid (∀ w', Frame [] ((w.alloc (.cells #[.slice a n c] 30)).alloc (.cells #[.slice b m d] 30)) w' → Calls Try.prog 16 #[.agg #[.slice a n c]] w' (NewSets w' f)) := fun w' q => asets_any _ f w' (hf.v.frame (fr.out.trans1 q)) (by omega)
  have SY : Hid (∀ w', Frame [] ((w.alloc (.cells #[.slice a n c] 30)).alloc (.cells #[.slice b m d] 30)) w' → Calls Try.prog 16 #[.agg #[.slice b m d]] w' (NewSets w' f)) := fun w' q => by rw [hfg]; exact asets_any _ g w' (hg.v.frame (fr.out.trans1 q)) (by omega)
  have LL : Hid (∀ (w' : World) (p q : Option Addr) (i j : Nat) (xs ys : List SV), RV w' p xs → RV w' q ys → xs.map (·.l) = f → ys.map (·.l) = f → Calls Try.prog 23 #[.slice p xs.length i, .slice q ys.length j] w' fun e w'' => e = .returned (.bool true) ∧ Frame [] w' w'') := fun w' p q i j xs ys r1 r2 m1 m2 => by
    have h1 := congrArg List.length m1
    have h2 := congrArg List.length m2
    rw [List.length_map] at h1 h2
    have h := lists_any p q i j xs ys w' r1 r2 (by omega) (by omega)
    rw [m1, m2] at h
    simpa using h
  clear hf hg hfg lf lg B0 B1
  go_enter Try.func22, Try.ntmps22
  go_wp2_with fail
  generalize hx : (w.alloc (.cells #[.slice a n c] 30)).alloc (.cells #[.slice b m d] 30) = x at *
  clear hx
  -- the two rows stand in slots of their own: told apart by the cell that is read
  go_region_held3 (fun w' => Frame [] x w') ((repeat first | assumption | exact Frame.refl _ _ | refine Frame.trans1 ?_ (Frame.alloc _ _ _) | refine Frame.trans1 ?_ (Frame.drew _ _) | refine Frame.trans1 ?_ (Frame.drewN _ _ _)))
    ((first
      | (go_at_call_of 16 a; refine (SX.out _ (by (repeat first | assumption | exact Frame.refl _ _ | refine Frame.trans1 ?_ (Frame.alloc _ _ _) | refine Frame.trans1 ?_ (Frame.drew _ _) | refine Frame.trans1 ?_ (Frame.drewN _ _ _)))).mono ?_; rintro e wp ⟨ap, cp, xs, Gp, rfl, op, mp, -, fp, -⟩; have FP : Frame [] x wp := (show Frame [] x _ from by (repeat first | assumption | exact Frame.refl _ _ | refine Frame.trans1 ?_ (Frame.alloc _ _ _) | refine Frame.trans1 ?_ (Frame.drew _ _) | refine Frame.trans1 ?_ (Frame.drewN _ _ _))).trans1 fp; have RP := Lib.hid op.rv; have MP := Lib.hid mp; clear op mp)
      | (go_at_call_of 16 b; refine (SY.out _ (by (repeat first | assumption | exact Frame.refl _ _ | refine Frame.trans1 ?_ (Frame.alloc _ _ _) | refine Frame.trans1 ?_ (Frame.drew _ _) | refine Frame.trans1 ?_ (Frame.drewN _ _ _)))).mono ?_; rintro e wr ⟨ar, cr, ys, Gr, rfl, orr, mr, -, frr, -⟩; have FR : Frame [] x wr := (show Frame [] x _ from by (repeat first | assumption | exact Frame.refl _ _ | refine Frame.trans1 ?_ (Frame.alloc _ _ _) | refine Frame.trans1 ?_ (Frame.drew _ _) | refine Frame.trans1 ?_ (Frame.drewN _ _ _))).trans1 frr; have RR := Lib.hid orr.rv; have MR := Lib.hid mr; have RP2 := Lib.hid (RP.out.frame frr); clear orr mr)
      | (go_at_call 23; refine (LL.out _ ap ar cp cr xs ys RP2.out RR.out MP.out MR.out).mono ?_; rintro e wl ⟨rfl, fl⟩; have FL : Frame [] x wl := (show Frame [] x _ from by (repeat first | assumption | exact Frame.refl _ _ | refine Frame.trans1 ?_ (Frame.alloc _ _ _) | refine Frame.trans1 ?_ (Frame.drew _ _) | refine Frame.trans1 ?_ (Frame.drewN _ _ _))).trans1 fl)))
  go_wp2_with fail
  go_ret
  exact ⟨rfl, fr.out.trans1 (FL.trans1 (by (repeat first | assumption | exact Frame.refl _ _ | refine Frame.trans1 ?_ (Frame.alloc _ _ _) | refine Frame.trans1 ?_ (Frame.drew _ _) | refine Frame.trans1 ?_ (Frame.drewN _ _ _))))⟩
end Go.Proofs.Ytojfemaamhampaa
