/- tansyref1.op, PlusValue, Better at all six semirings. (printed by gen_op1.py) -/
import Derived.Test.YtbnhhmejlglbcaaMg38
import Derived.Test.YtbnhhmejlglbcaaMg42
namespace Go.Proofs.Ytbnhhmejlglbcaa
open Go.RowKit
set_option linter.unusedSimpArgs false
set_option linter.unusedVariables false

set_option maxHeartbeats 1000000 in
set_option maxRecDepth 100000 in
theorem op1p_1 (x y : Option Nat) (i j : Bool) (a b : Option Addr) (l c m d : Nat) (w : World) (h1 : NR w (.agg #[.bool i, .slice a l c]) x) (h2 : NR w (.agg #[.bool j, .slice b m d]) y) (l1 : Sz x) (l2 : Sz y) : Calls Try.prog 49 #[.agg #[.int .i64 1, .bool i, .slice a l c, .int .i64 0, .float .f64 0], .agg #[.int .i64 1, .bool j, .slice b m d, .int .i64 0, .float .f64 0], .bool false] w (VEnd (IsN 1) ((rgN1).p x y) w) := by
  have hst := fun (w : World) (a : Addr) (q : Nat) (m : Mode) => run_store Try.prog w a (.float .f64 q) m rfl
  have M1 := Lib.hid (fun w' (f : Frame [] w w') => mv_1 x i a l c w' (h1.frame f) l1)
  have M2 := Lib.hid (fun w' (f : Frame [] w w') => mv_1 y j b m d w' (h2.frame f) l2)
  have B0 := Lib.hid (((Blk.new w 39 #[.int .i64 1, .bool i, .slice a l c, .int .i64 0, .float .f64 0]).alloc (.cells #[.int .i64 1, .bool j, .slice b m d, .int .i64 0, .float .f64 0] 39)).alloc (.cells #[.int .i64 0, .bool false, .slice none 0 0, .int .i64 0, .float .f64 0] 39))
  have B1 := (Blk.new (w.alloc (.cells #[.int .i64 1, .bool i, .slice a l c, .int .i64 0, .float .f64 0] 39)) 39 #[.int .i64 1, .bool j, .slice b m d, .int .i64 0, .float .f64 0]).alloc (.cells #[.int .i64 0, .bool false, .slice none 0 0, .int .i64 0, .float .f64 0] 39)
  have B2 := Blk.new ((w.alloc (.cells #[.int .i64 1, .bool i, .slice a l c, .int .i64 0, .float .f64 0] 39)).alloc (.cells #[.int .i64 1, .bool j, .slice b m d, .int .i64 0, .float .f64 0] 39)) 39 #[.int .i64 0, .bool false, .slice none 0 0, .int .i64 0, .float .f64 0]
  simp only [World.size_alloc] at B1 B2
  have B1 := Lib.hid B1
  have B2 := Lib.hid B2
  have F0 : Hid (Frame [] w (((w.alloc (.cells #[.int .i64 1, .bool i, .slice a l c, .int .i64 0, .float .f64 0] 39)).alloc (.cells #[.int .i64 1, .bool j, .slice b m d, .int .i64 0, .float .f64 0] 39)).alloc (.cells #[.int .i64 0, .bool false, .slice none 0 0, .int .i64 0, .float .f64 0] 39))) := by show Frame [] w _; (repeat first | assumption | exact Frame.refl _ _ | refine Frame.trans1 ?_ (Frame.alloc _ _ _) | refine Frame.trans1 ?_ (Frame.drew _ _) | refine Frame.trans1 ?_ (Frame.drewN _ _ _))
  have H := Lib.hid (And.intro h1 h2)
  clear h1 h2
  go_enter Try.func49, Try.ntmps49
  go_upto_region 1 with fail
  generalize ((w.alloc (.cells #[.int .i64 1, .bool i, .slice a l c, .int .i64 0, .float .f64 0] 39)).alloc (.cells #[.int .i64 1, .bool j, .slice b m d, .int .i64 0, .float .f64 0] 39)).alloc (.cells #[.int .i64 0, .bool false, .slice none 0 0, .int .i64 0, .float .f64 0] 39) = w0 at *
  obtain ⟨b2, hb2⟩ : ∃ b2, w.heap.size + 1 + 1 = b2 := ⟨_, rfl⟩
  rw [hb2] at B2 ⊢
  obtain ⟨b1, hb1⟩ : ∃ b1, w.heap.size + 1 = b1 := ⟨_, rfl⟩
  rw [hb1] at B1 ⊢
  obtain ⟨b0, hb0⟩ : ∃ b0, w.heap.size = b0 := ⟨_, rfl⟩
  rw [hb0] at B0 ⊢
  have hbw : w.heap.size ≤ b2 := by omega
  have x0 := B0.out.at 0 rfl
  have x1 := B0.out.at 1 rfl
  have x2 := B0.out.at 2 rfl
  have x3 := B0.out.at 3 rfl
  have x4 := B0.out.at 4 rfl
  go_wp2_with fail
  refine (M1.out _ F0.out).mono ?_
  rintro e w1 ⟨rfl, f1⟩
  clear x0 x1 x2 x3 x4
  have C0 := Lib.hid (B0.out.frame f1 (by simp))
  have C1 := Lib.hid (B1.out.frame f1 (by simp))
  have C2 := Lib.hid (B2.out.frame f1 (by simp))
  have F1 := Lib.hid (F0.out.trans1 f1)
  clear f1 B0 B1 B2 F0
  have y0 := C1.out.at 0 rfl
  have y1 := C1.out.at 1 rfl
  have y2 := C1.out.at 2 rfl
  have y3 := C1.out.at 3 rfl
  have y4 := C1.out.at 4 rfl
  go_wp2_with fail
  refine (M2.out _ F1.out).mono ?_
  rintro e w1 ⟨rfl, f1⟩
  clear y0 y1 y2 y3 y4
  have C0 := C0.out.frame f1 (by simp)
  have C1 := C1.out.frame f1 (by simp)
  have C2 := C2.out.frame f1 (by simp)
  have F1 := Lib.hid (F1.out.trans1 f1)
  have x0 := C0.at 0 rfl
  have y0 := C1.at 0 rfl
  clear f1 M1 M2
  go_upto_region 10 with fail
  clear x0 y0
  have E3 := Blk.new w1 39 #[.int .i64 1, .bool false, .slice none 0 0, .int .i64 0, .float .f64 0]
  have C0 := C0.alloc (.cells #[.int .i64 1, .bool false, .slice none 0 0, .int .i64 0, .float .f64 0] 39)
  have C1 := C1.alloc (.cells #[.int .i64 1, .bool false, .slice none 0 0, .int .i64 0, .float .f64 0] 39)
  have h23 : b2 < w1.heap.size := C2.lt
  have h03 : b0 < w1.heap.size ∧ b1 < w1.heap.size := by omega
  have C2 := Lib.hid (C2.alloc (.cells #[.int .i64 1, .bool false, .slice none 0 0, .int .i64 0, .float .f64 0] 39))
  have F2 := Lib.hid (F1.out.trans1 (Frame.alloc [] w1 (.cells #[.int .i64 1, .bool false, .slice none 0 0, .int .i64 0, .float .f64 0] 39)))
  generalize w1.alloc (.cells #[.int .i64 1, .bool false, .slice none 0 0, .int .i64 0, .float .f64 0] 39) = w2 at *
  obtain ⟨b3, hb3⟩ : ∃ b3, w1.heap.size = b3 := ⟨_, rfl⟩
  rw [hb3] at E3 h23 h03 ⊢
  have hne : b2 ∉ [b3] := by simp only [List.mem_singleton]; omega
  have hn0 : b0 ∉ [b3] := by simp only [List.mem_singleton]; omega
  have hn1 : b1 ∉ [b3] := by simp only [List.mem_singleton]; omega
  have hw3 : w.heap.size ≤ b3 := by omega
  have x0 := C0.at 0 rfl
  have x1 := C0.at 1 rfl
  have x2 := C0.at 2 rfl
  have y1 := C1.at 1 rfl
  have y2 := C1.at 2 rfl
  have E3 := Lib.hid E3
  have C0 := Lib.hid C0
  have C1 := Lib.hid C1
  have NA := Lib.hid (add1_any _ _ x y w2 (H.out.1.frame F2.out) (H.out.2.frame F2.out) l1 l2)
  go_wp2_with fail
  refine NA.out.mono ?_
  rintro e w3 ⟨v, rfl, nv, f3⟩
  obtain ⟨i3, a3, l3', c3, rfl⟩ := nv.form
  have E4 := E3.out.frame f3 (by simp)
  have z1 := E4.at 1 rfl
  have z2 := E4.at 2 rfl
  have zf := E4.frozen
  have D2 := C2.out.frame f3 (by simp)
  have D0 := C0.out.frame f3 (by simp)
  have D1 := C1.out.frame f3 (by simp)
  have F3 := Lib.hid (F2.out.trans1 f3)
  have NV := Lib.hid nv
  clear x0 x1 x2 y1 y2 nv f3 NA C2 E3
  go_upto_region 34 with fail
  have fS : Frame [b3] w3 ((w3.setCell ⟨b3, 1, none⟩ (.bool i3)).setCell ⟨b3, 2, none⟩ (.slice a3 l3' c3)) := (Frame.setCell _ _ _ (by simp)).trans1 (Frame.setCell _ _ _ (by simp))
  have KS := KeepD.blk fS E4 (by decide)
  have E5 : Blk ((w3.setCell ⟨b3, 1, none⟩ (.bool i3)).setCell ⟨b3, 2, none⟩ (.slice a3 l3' c3)) b3 39 #[.int .i64 1, .bool i3, .slice a3 l3' c3, .int .i64 0, .float .f64 0] := by have := (E4.set 1 (.bool i3)).set 2 (.slice a3 l3' c3); simpa using this
  have N4 := Lib.hid (NV.out.kept KS)
  have D2 := D2.frame fS hne
  have D0 := D0.frame fS hn0
  have D1 := D1.frame fS hn1
  have F4 := Lib.hid (F3.out.trans fS (fun x hx => by simp at hx; subst hx; exact .inr hw3))
  clear D0 D1 C0 C1
  clear z1 z2 zf E4 NV KS F3
  generalize (w3.setCell ⟨b3, 1, none⟩ (.bool i3)).setCell ⟨b3, 2, none⟩ (.slice a3 l3' c3) = w4 at *
  clear fS
  have e0 := E5.at 0 rfl
  have e1 := E5.at 1 rfl
  have e2 := E5.at 2 rfl
  have e3 := E5.at 3 rfl
  have e4 := E5.at 4 rfl
  have y0 := D2.at 0 rfl
  have y1 := D2.at 1 rfl
  have y2 := D2.at 2 rfl
  have y3 := D2.at 3 rfl
  have y4 := D2.at 4 rfl
  have zf := D2.frozen
  have B5 := Lib.hid (putV D2 (.int .i64 1) (.bool i3) (.slice a3 l3' c3) (.int .i64 0) (.float .f64 0))
  have F5 := Lib.hid (putV_frame (w := w) (b := b2) (by omega) F4.out (.int .i64 1) (.bool i3) (.slice a3 l3' c3) (.int .i64 0) (.float .f64 0))
  have KD := Lib.hid (putV_keep D2 (.int .i64 1) (.bool i3) (.slice a3 l3' c3) (.int .i64 0) (.float .f64 0))
  have NW := Lib.hid (N4.out.kept KD.out)
  clear D2 E5
  go_wp2_with fail
  refine bodyPost_ret (results_val2 rfl _ _ _ _ _ _ _ _ rfl B5.out) rfl ?_
  exact ⟨_, rfl, ⟨_, _, _, _, rfl, NW.out⟩, F5.out⟩
set_option maxHeartbeats 1000000 in
set_option maxRecDepth 100000 in
theorem op1p_2 (x y : Int) (w : World) (h1 : 0 ≤ x ∧ x ≤ lTop 2) (h2 : 0 ≤ y ∧ y ≤ lTop 2) : Calls Try.prog 49 #[.agg #[.int .i64 2, .bool false, .slice none 0 0, .int .i64 x, .float .f64 0], .agg #[.int .i64 2, .bool false, .slice none 0 0, .int .i64 y, .float .f64 0], .bool false] w (VEnd (IsL 2) ((rgL 2).p x y) w) := by
  have hst := fun (w : World) (a : Addr) (q : Nat) (m : Mode) => run_store Try.prog w a (.float .f64 q) m rfl
  have M1 := Lib.hid (fun w' (f : Frame [] w w') => mv_2 x w' h1.1 h1.2)
  have M2 := Lib.hid (fun w' (f : Frame [] w w') => mv_2 y w' h2.1 h2.2)
  have B0 := Lib.hid (((Blk.new w 39 #[.int .i64 2, .bool false, .slice none 0 0, .int .i64 x, .float .f64 0]).alloc (.cells #[.int .i64 2, .bool false, .slice none 0 0, .int .i64 y, .float .f64 0] 39)).alloc (.cells #[.int .i64 0, .bool false, .slice none 0 0, .int .i64 0, .float .f64 0] 39))
  have B1 := (Blk.new (w.alloc (.cells #[.int .i64 2, .bool false, .slice none 0 0, .int .i64 x, .float .f64 0] 39)) 39 #[.int .i64 2, .bool false, .slice none 0 0, .int .i64 y, .float .f64 0]).alloc (.cells #[.int .i64 0, .bool false, .slice none 0 0, .int .i64 0, .float .f64 0] 39)
  have B2 := Blk.new ((w.alloc (.cells #[.int .i64 2, .bool false, .slice none 0 0, .int .i64 x, .float .f64 0] 39)).alloc (.cells #[.int .i64 2, .bool false, .slice none 0 0, .int .i64 y, .float .f64 0] 39)) 39 #[.int .i64 0, .bool false, .slice none 0 0, .int .i64 0, .float .f64 0]
  simp only [World.size_alloc] at B1 B2
  have B1 := Lib.hid B1
  have B2 := Lib.hid B2
  have F0 : Hid (Frame [] w (((w.alloc (.cells #[.int .i64 2, .bool false, .slice none 0 0, .int .i64 x, .float .f64 0] 39)).alloc (.cells #[.int .i64 2, .bool false, .slice none 0 0, .int .i64 y, .float .f64 0] 39)).alloc (.cells #[.int .i64 0, .bool false, .slice none 0 0, .int .i64 0, .float .f64 0] 39))) := by show Frame [] w _; (repeat first | assumption | exact Frame.refl _ _ | refine Frame.trans1 ?_ (Frame.alloc _ _ _) | refine Frame.trans1 ?_ (Frame.drew _ _) | refine Frame.trans1 ?_ (Frame.drewN _ _ _))
  have H := Lib.hid (And.intro h1 h2)
  clear h1 h2
  go_enter Try.func49, Try.ntmps49
  go_upto_region 1 with fail
  generalize ((w.alloc (.cells #[.int .i64 2, .bool false, .slice none 0 0, .int .i64 x, .float .f64 0] 39)).alloc (.cells #[.int .i64 2, .bool false, .slice none 0 0, .int .i64 y, .float .f64 0] 39)).alloc (.cells #[.int .i64 0, .bool false, .slice none 0 0, .int .i64 0, .float .f64 0] 39) = w0 at *
  obtain ⟨b2, hb2⟩ : ∃ b2, w.heap.size + 1 + 1 = b2 := ⟨_, rfl⟩
  rw [hb2] at B2 ⊢
  obtain ⟨b1, hb1⟩ : ∃ b1, w.heap.size + 1 = b1 := ⟨_, rfl⟩
  rw [hb1] at B1 ⊢
  obtain ⟨b0, hb0⟩ : ∃ b0, w.heap.size = b0 := ⟨_, rfl⟩
  rw [hb0] at B0 ⊢
  have hbw : w.heap.size ≤ b2 := by omega
  have x0 := B0.out.at 0 rfl
  have x1 := B0.out.at 1 rfl
  have x2 := B0.out.at 2 rfl
  have x3 := B0.out.at 3 rfl
  have x4 := B0.out.at 4 rfl
  go_wp2_with fail
  refine (M1.out _ F0.out).mono ?_
  rintro e w1 ⟨rfl, f1⟩
  clear x0 x1 x2 x3 x4
  have C0 := Lib.hid (B0.out.frame f1 (by simp))
  have C1 := Lib.hid (B1.out.frame f1 (by simp))
  have C2 := Lib.hid (B2.out.frame f1 (by simp))
  have F1 := Lib.hid (F0.out.trans1 f1)
  clear f1 B0 B1 B2 F0
  have y0 := C1.out.at 0 rfl
  have y1 := C1.out.at 1 rfl
  have y2 := C1.out.at 2 rfl
  have y3 := C1.out.at 3 rfl
  have y4 := C1.out.at 4 rfl
  go_wp2_with fail
  refine (M2.out _ F1.out).mono ?_
  rintro e w1 ⟨rfl, f1⟩
  clear y0 y1 y2 y3 y4
  have C0 := C0.out.frame f1 (by simp)
  have C1 := C1.out.frame f1 (by simp)
  have C2 := C2.out.frame f1 (by simp)
  have F1 := Lib.hid (F1.out.trans1 f1)
  have x0 := C0.at 0 rfl
  have y0 := C1.at 0 rfl
  clear f1 M1 M2
  go_upto_region 10 with fail
  clear x0 y0
  have E3 := Blk.new w1 39 #[.int .i64 2, .bool false, .slice none 0 0, .int .i64 0, .float .f64 0]
  have C0 := C0.alloc (.cells #[.int .i64 2, .bool false, .slice none 0 0, .int .i64 0, .float .f64 0] 39)
  have C1 := C1.alloc (.cells #[.int .i64 2, .bool false, .slice none 0 0, .int .i64 0, .float .f64 0] 39)
  have h23 : b2 < w1.heap.size := C2.lt
  have h03 : b0 < w1.heap.size ∧ b1 < w1.heap.size := by omega
  have C2 := Lib.hid (C2.alloc (.cells #[.int .i64 2, .bool false, .slice none 0 0, .int .i64 0, .float .f64 0] 39))
  have F2 := Lib.hid (F1.out.trans1 (Frame.alloc [] w1 (.cells #[.int .i64 2, .bool false, .slice none 0 0, .int .i64 0, .float .f64 0] 39)))
  generalize w1.alloc (.cells #[.int .i64 2, .bool false, .slice none 0 0, .int .i64 0, .float .f64 0] 39) = w2 at *
  obtain ⟨b3, hb3⟩ : ∃ b3, w1.heap.size = b3 := ⟨_, rfl⟩
  rw [hb3] at E3 h23 h03 ⊢
  have hne : b2 ∉ [b3] := by simp only [List.mem_singleton]; omega
  have hn0 : b0 ∉ [b3] := by simp only [List.mem_singleton]; omega
  have hn1 : b1 ∉ [b3] := by simp only [List.mem_singleton]; omega
  have hw3 : w.heap.size ≤ b3 := by omega
  have x0 := C0.at 0 rfl
  have x3 := C0.at 3 rfl
  have y3 := C1.at 3 rfl
  have z3 := E3.at 3 rfl
  have zf := E3.frozen
  clear C0 C1
  have hmx : 0 ≤ max x y ∧ max x y ≤ lTop 2 := by have := H.out.1; have := H.out.2; omega
  go_upto_region 34 with fail
  generalize hres : max x y = r at *
  have HRES : Hid ((rgL 2).p x y = r) := hres
  have HM := Lib.hid hmx
  clear hres hmx
  have fS : Frame [b3] w2 (w2.setCell ⟨b3, 3, none⟩ (.int .i64 r)) := Frame.setCell _ _ _ (by simp)
  have E5 : Blk (w2.setCell ⟨b3, 3, none⟩ (.int .i64 r)) b3 39 #[.int .i64 2, .bool false, .slice none 0 0, .int .i64 r, .float .f64 0] := by have := E3.set 3 (.int .i64 r); simpa using this
  have D2 := C2.out.frame fS hne
  have F4 := Lib.hid (F2.out.trans fS (fun x hx => by simp at hx; subst hx; exact .inr hw3))
  clear z3 zf E3 C2 x0 x3 y3
  generalize w2.setCell ⟨b3, 3, none⟩ (.int .i64 r) = w4 at *
  clear fS
  have e0 := E5.at 0 rfl
  have e1 := E5.at 1 rfl
  have e2 := E5.at 2 rfl
  have e3 := E5.at 3 rfl
  have e4 := E5.at 4 rfl
  have y0 := D2.at 0 rfl
  have y1 := D2.at 1 rfl
  have y2 := D2.at 2 rfl
  have y3 := D2.at 3 rfl
  have y4 := D2.at 4 rfl
  have zf := D2.frozen
  have B5 := Lib.hid (putV D2 (.int .i64 2) (.bool false) (.slice none 0 0) (.int .i64 r) (.float .f64 0))
  have F5 := Lib.hid (putV_frame (w := w) (b := b2) (by omega) F4.out (.int .i64 2) (.bool false) (.slice none 0 0) (.int .i64 r) (.float .f64 0))
  have KD := Lib.hid (putV_keep D2 (.int .i64 2) (.bool false) (.slice none 0 0) (.int .i64 r) (.float .f64 0))
  clear D2 E5
  go_wp2_with fail
  refine bodyPost_ret (results_val2 rfl _ _ _ _ _ _ _ _ rfl B5.out) rfl ?_
  exact ⟨_, rfl, by rw [HRES.out]; exact ⟨rfl, HM.out⟩, F5.out⟩
set_option maxHeartbeats 1000000 in
set_option maxRecDepth 100000 in
theorem op1p_3 (x y : Option Nat) (i j : Bool) (a b : Option Addr) (l c m d : Nat) (w : World) (h1 : NR w (.agg #[.bool i, .slice a l c]) x) (h2 : NR w (.agg #[.bool j, .slice b m d]) y) (l1 : Sz x) (l2 : Sz y) : Calls Try.prog 49 #[.agg #[.int .i64 3, .bool i, .slice a l c, .int .i64 0, .float .f64 0], .agg #[.int .i64 3, .bool j, .slice b m d, .int .i64 0, .float .f64 0], .bool false] w (VEnd (IsN 3) ((rgT).p x y) w) := by
  have hst := fun (w : World) (a : Addr) (q : Nat) (m : Mode) => run_store Try.prog w a (.float .f64 q) m rfl
  have M1 := Lib.hid (fun w' (f : Frame [] w w') => mv_3 x i a l c w' (h1.frame f) l1)
  have M2 := Lib.hid (fun w' (f : Frame [] w w') => mv_3 y j b m d w' (h2.frame f) l2)
  have B0 := Lib.hid (((Blk.new w 39 #[.int .i64 3, .bool i, .slice a l c, .int .i64 0, .float .f64 0]).alloc (.cells #[.int .i64 3, .bool j, .slice b m d, .int .i64 0, .float .f64 0] 39)).alloc (.cells #[.int .i64 0, .bool false, .slice none 0 0, .int .i64 0, .float .f64 0] 39))
  have B1 := (Blk.new (w.alloc (.cells #[.int .i64 3, .bool i, .slice a l c, .int .i64 0, .float .f64 0] 39)) 39 #[.int .i64 3, .bool j, .slice b m d, .int .i64 0, .float .f64 0]).alloc (.cells #[.int .i64 0, .bool false, .slice none 0 0, .int .i64 0, .float .f64 0] 39)
  have B2 := Blk.new ((w.alloc (.cells #[.int .i64 3, .bool i, .slice a l c, .int .i64 0, .float .f64 0] 39)).alloc (.cells #[.int .i64 3, .bool j, .slice b m d, .int .i64 0, .float .f64 0] 39)) 39 #[.int .i64 0, .bool false, .slice none 0 0, .int .i64 0, .float .f64 0]
  simp only [World.size_alloc] at B1 B2
  have B1 := Lib.hid B1
  have B2 := Lib.hid B2
  have F0 : Hid (Frame [] w (((w.alloc (.cells #[.int .i64 3, .bool i, .slice a l c, .int .i64 0, .float .f64 0] 39)).alloc (.cells #[.int .i64 3, .bool j, .slice b m d, .int .i64 0, .float .f64 0] 39)).alloc (.cells #[.int .i64 0, .bool false, .slice none 0 0, .int .i64 0, .float .f64 0] 39))) := by show Frame [] w _; (repeat first | assumption | exact Frame.refl _ _ | refine Frame.trans1 ?_ (Frame.alloc _ _ _) | refine Frame.trans1 ?_ (Frame.drew _ _) | refine Frame.trans1 ?_ (Frame.drewN _ _ _))
  have H := Lib.hid (And.intro h1 h2)
  clear h1 h2
  go_enter Try.func49, Try.ntmps49
  go_upto_region 1 with fail
  generalize ((w.alloc (.cells #[.int .i64 3, .bool i, .slice a l c, .int .i64 0, .float .f64 0] 39)).alloc (.cells #[.int .i64 3, .bool j, .slice b m d, .int .i64 0, .float .f64 0] 39)).alloc (.cells #[.int .i64 0, .bool false, .slice none 0 0, .int .i64 0, .float .f64 0] 39) = w0 at *
  obtain ⟨b2, hb2⟩ : ∃ b2, w.heap.size + 1 + 1 = b2 := ⟨_, rfl⟩
  rw [hb2] at B2 ⊢
  obtain ⟨b1, hb1⟩ : ∃ b1, w.heap.size + 1 = b1 := ⟨_, rfl⟩
  rw [hb1] at B1 ⊢
  obtain ⟨b0, hb0⟩ : ∃ b0, w.heap.size = b0 := ⟨_, rfl⟩
  rw [hb0] at B0 ⊢
  have hbw : w.heap.size ≤ b2 := by omega
  have x0 := B0.out.at 0 rfl
  have x1 := B0.out.at 1 rfl
  have x2 := B0.out.at 2 rfl
  have x3 := B0.out.at 3 rfl
  have x4 := B0.out.at 4 rfl
  go_wp2_with fail
  refine (M1.out _ F0.out).mono ?_
  rintro e w1 ⟨rfl, f1⟩
  clear x0 x1 x2 x3 x4
  have C0 := Lib.hid (B0.out.frame f1 (by simp))
  have C1 := Lib.hid (B1.out.frame f1 (by simp))
  have C2 := Lib.hid (B2.out.frame f1 (by simp))
  have F1 := Lib.hid (F0.out.trans1 f1)
  clear f1 B0 B1 B2 F0
  have y0 := C1.out.at 0 rfl
  have y1 := C1.out.at 1 rfl
  have y2 := C1.out.at 2 rfl
  have y3 := C1.out.at 3 rfl
  have y4 := C1.out.at 4 rfl
  go_wp2_with fail
  refine (M2.out _ F1.out).mono ?_
  rintro e w1 ⟨rfl, f1⟩
  clear y0 y1 y2 y3 y4
  have C0 := C0.out.frame f1 (by simp)
  have C1 := C1.out.frame f1 (by simp)
  have C2 := C2.out.frame f1 (by simp)
  have F1 := Lib.hid (F1.out.trans1 f1)
  have x0 := C0.at 0 rfl
  have y0 := C1.at 0 rfl
  clear f1 M1 M2
  go_upto_region 10 with fail
  clear x0 y0
  have E3 := Blk.new w1 39 #[.int .i64 3, .bool false, .slice none 0 0, .int .i64 0, .float .f64 0]
  have C0 := C0.alloc (.cells #[.int .i64 3, .bool false, .slice none 0 0, .int .i64 0, .float .f64 0] 39)
  have C1 := C1.alloc (.cells #[.int .i64 3, .bool false, .slice none 0 0, .int .i64 0, .float .f64 0] 39)
  have h23 : b2 < w1.heap.size := C2.lt
  have h03 : b0 < w1.heap.size ∧ b1 < w1.heap.size := by omega
  have C2 := Lib.hid (C2.alloc (.cells #[.int .i64 3, .bool false, .slice none 0 0, .int .i64 0, .float .f64 0] 39))
  have F2 := Lib.hid (F1.out.trans1 (Frame.alloc [] w1 (.cells #[.int .i64 3, .bool false, .slice none 0 0, .int .i64 0, .float .f64 0] 39)))
  generalize w1.alloc (.cells #[.int .i64 3, .bool false, .slice none 0 0, .int .i64 0, .float .f64 0] 39) = w2 at *
  obtain ⟨b3, hb3⟩ : ∃ b3, w1.heap.size = b3 := ⟨_, rfl⟩
  rw [hb3] at E3 h23 h03 ⊢
  have hne : b2 ∉ [b3] := by simp only [List.mem_singleton]; omega
  have hn0 : b0 ∉ [b3] := by simp only [List.mem_singleton]; omega
  have hn1 : b1 ∉ [b3] := by simp only [List.mem_singleton]; omega
  have hw3 : w.heap.size ≤ b3 := by omega
  have x0 := C0.at 0 rfl
  have x1 := C0.at 1 rfl
  have x2 := C0.at 2 rfl
  have y1 := C1.at 1 rfl
  have y2 := C1.at 2 rfl
  have E3 := Lib.hid E3
  have C0 := Lib.hid C0
  have C1 := Lib.hid C1
  have CL := Lib.hid (clean_any _ x w2 (H.out.1.frame F2.out) l1)
  go_wp2_with fail
  refine CL.out.mono ?_
  rintro e w3 ⟨v, rfl, nv, f3⟩
  obtain ⟨i3, a3, l3', c3, rfl⟩ := nv.form
  have E4 := E3.out.frame f3 (by simp)
  have z1 := E4.at 1 rfl
  have z2 := E4.at 2 rfl
  have zf := E4.frozen
  have D2 := C2.out.frame f3 (by simp)
  have D0 := C0.out.frame f3 (by simp)
  have D1 := C1.out.frame f3 (by simp)
  have F3 := Lib.hid (F2.out.trans1 f3)
  have NV := Lib.hid nv
  clear x0 x1 x2 y1 y2 nv f3 CL C2 E3
  go_upto_region 17 with fail
  have fS : Frame [b3] w3 ((w3.setCell ⟨b3, 1, none⟩ (.bool i3)).setCell ⟨b3, 2, none⟩ (.slice a3 l3' c3)) := (Frame.setCell _ _ _ (by simp)).trans1 (Frame.setCell _ _ _ (by simp))
  have KS := KeepD.blk fS E4 (by decide)
  have E5 : Blk ((w3.setCell ⟨b3, 1, none⟩ (.bool i3)).setCell ⟨b3, 2, none⟩ (.slice a3 l3' c3)) b3 39 #[.int .i64 3, .bool i3, .slice a3 l3' c3, .int .i64 0, .float .f64 0] := by have := (E4.set 1 (.bool i3)).set 2 (.slice a3 l3' c3); simpa using this
  have N4 := Lib.hid (NV.out.kept KS)
  have D2 := D2.frame fS hne
  have D0 := D0.frame fS hn0
  have D1 := D1.frame fS hn1
  have F4 := Lib.hid (F3.out.trans fS (fun x hx => by simp at hx; subst hx; exact .inr hw3))
  clear z1 z2 zf E4 NV KS F3
  generalize (w3.setCell ⟨b3, 1, none⟩ (.bool i3)).setCell ⟨b3, 2, none⟩ (.slice a3 l3' c3) = w4 at *
  clear fS
  have CM := Lib.hid (cmp1_any _ _ y x w4 (H.out.2.frame F4.out) (H.out.1.frame F4.out) l2 l1)
  have x1 := D0.at 1 rfl
  have x2 := D0.at 2 rfl
  have y1 := D1.at 1 rfl
  have y2 := D1.at 2 rfl
  have E5h := Lib.hid E5
  have C0 := Lib.hid D0
  have C1 := Lib.hid D1
  have C2 := Lib.hid D2
  clear D0 D1 D2 E5
  go_wp2_with fail
  refine CM.out.mono ?_
  rintro e w5 ⟨rfl, f5⟩
  have y1 := (C1.out.frame f5 (by simp)).at 1 rfl
  have y2 := (C1.out.frame f5 (by simp)).at 2 rfl
  have E5 := E5h.out.frame f5 (by simp)
  have D2 := C2.out.frame f5 (by simp)
  have F6 := Lib.hid (F4.out.trans1 f5)
  have N4 := Lib.hid (N4.out.frame f5)
  by_cases hlt : cmpO y x < 0
  · have d1 : decide (cmpO y x < 0) = true := decide_eq_true hlt
    have HRR : Hid ((rgT).p x y = y) := by show minO x y = y; unfold minO; rw [if_pos hlt]
    generalize cmpO y x = oo at *
    have CL := Lib.hid (clean_any _ y w5 (H.out.2.frame F6.out) l2)
    have E3 := Lib.hid E5
    have C2 := Lib.hid D2
    have F2 := F6
    have C0 := Lib.hid (C0.out.frame f5 (by simp))
    have C1 := Lib.hid (C1.out.frame f5 (by simp))
    clear hlt E5h E5 f5 x1 x2 N4 D2 F4
    go_wp2_with fail
    refine CL.out.mono ?_
    rintro e w3 ⟨v, rfl, nv, f3⟩
    obtain ⟨i4, a4, l4, c4, rfl⟩ := nv.form
    have E4 := E3.out.frame f3 (by simp)
    have z1 := E4.at 1 rfl
    have z2 := E4.at 2 rfl
    have zf := E4.frozen
    have D2 := C2.out.frame f3 (by simp)
    have D0 := C0.out.frame f3 (by simp)
    have D1 := C1.out.frame f3 (by simp)
    have F3 := Lib.hid (F2.out.trans1 f3)
    have NV := Lib.hid nv
    clear y1 y2 nv f3 CL C2 E3
    go_upto_region 34 with fail
    have fS : Frame [b3] w3 ((w3.setCell ⟨b3, 1, none⟩ (.bool i4)).setCell ⟨b3, 2, none⟩ (.slice a4 l4 c4)) := (Frame.setCell _ _ _ (by simp)).trans1 (Frame.setCell _ _ _ (by simp))
    have KS := KeepD.blk fS E4 (by decide)
    have E5 : Blk ((w3.setCell ⟨b3, 1, none⟩ (.bool i4)).setCell ⟨b3, 2, none⟩ (.slice a4 l4 c4)) b3 39 #[.int .i64 3, .bool i4, .slice a4 l4 c4, .int .i64 0, .float .f64 0] := by have := (E4.set 1 (.bool i4)).set 2 (.slice a4 l4 c4); simpa using this
    have N4 := Lib.hid (NV.out.kept KS)
    have D2 := D2.frame fS hne
    have D0 := D0.frame fS hn0
    have D1 := D1.frame fS hn1
    have F4 := Lib.hid (F3.out.trans fS (fun x hx => by simp at hx; subst hx; exact .inr hw3))
    clear D0 D1 C0 C1
    clear z1 z2 zf E4 NV KS F3
    generalize (w3.setCell ⟨b3, 1, none⟩ (.bool i4)).setCell ⟨b3, 2, none⟩ (.slice a4 l4 c4) = w4 at *
    clear fS
    have e0 := E5.at 0 rfl
    have e1 := E5.at 1 rfl
    have e2 := E5.at 2 rfl
    have e3 := E5.at 3 rfl
    have e4 := E5.at 4 rfl
    have y0 := D2.at 0 rfl
    have y1 := D2.at 1 rfl
    have y2 := D2.at 2 rfl
    have y3 := D2.at 3 rfl
    have y4 := D2.at 4 rfl
    have zf := D2.frozen
    have B5 := Lib.hid (putV D2 (.int .i64 3) (.bool i4) (.slice a4 l4 c4) (.int .i64 0) (.float .f64 0))
    have F5 := Lib.hid (putV_frame (w := w) (b := b2) (by omega) F4.out (.int .i64 3) (.bool i4) (.slice a4 l4 c4) (.int .i64 0) (.float .f64 0))
    have KD := Lib.hid (putV_keep D2 (.int .i64 3) (.bool i4) (.slice a4 l4 c4) (.int .i64 0) (.float .f64 0))
    have NW := Lib.hid (N4.out.kept KD.out)
    clear D2 E5
    go_wp2_with fail
    refine bodyPost_ret (results_val2 rfl _ _ _ _ _ _ _ _ rfl B5.out) rfl ?_
    exact ⟨_, rfl, ⟨_, _, _, _, rfl, by rw [HRR.out]; exact NW.out⟩, F5.out⟩
  · have d1 : decide (cmpO y x < 0) = false := decide_eq_false hlt
    have HRR : Hid ((rgT).p x y = x) := by show minO x y = x; unfold minO; rw [if_neg hlt]
    generalize cmpO y x = oo at *
    have F4 := F6
    clear hlt E5h f5 x1 x2 y1 y2 CM
    have e0 := E5.at 0 rfl
    have e1 := E5.at 1 rfl
    have e2 := E5.at 2 rfl
    have e3 := E5.at 3 rfl
    have e4 := E5.at 4 rfl
    have y0 := D2.at 0 rfl
    have y1 := D2.at 1 rfl
    have y2 := D2.at 2 rfl
    have y3 := D2.at 3 rfl
    have y4 := D2.at 4 rfl
    have zf := D2.frozen
    have B5 := Lib.hid (putV D2 (.int .i64 3) (.bool i3) (.slice a3 l3' c3) (.int .i64 0) (.float .f64 0))
    have F5 := Lib.hid (putV_frame (w := w) (b := b2) (by omega) F4.out (.int .i64 3) (.bool i3) (.slice a3 l3' c3) (.int .i64 0) (.float .f64 0))
    have KD := Lib.hid (putV_keep D2 (.int .i64 3) (.bool i3) (.slice a3 l3' c3) (.int .i64 0) (.float .f64 0))
    have NW := Lib.hid (N4.out.kept KD.out)
    clear D2 E5
    go_wp2_with fail
    refine bodyPost_ret (results_val2 rfl _ _ _ _ _ _ _ _ rfl B5.out) rfl ?_
    exact ⟨_, rfl, ⟨_, _, _, _, rfl, by rw [HRR.out]; exact NW.out⟩, F5.out⟩
set_option maxHeartbeats 1000000 in
set_option maxRecDepth 100000 in
theorem op1p_4 (x y : Int) (w : World) (h1 : 0 ≤ x ∧ x ≤ lTop 4) (h2 : 0 ≤ y ∧ y ≤ lTop 4) : Calls Try.prog 49 #[.agg #[.int .i64 4, .bool false, .slice none 0 0, .int .i64 x, .float .f64 0], .agg #[.int .i64 4, .bool false, .slice none 0 0, .int .i64 y, .float .f64 0], .bool false] w (VEnd (IsL 4) ((rgL 4).p x y) w) := by
  have hst := fun (w : World) (a : Addr) (q : Nat) (m : Mode) => run_store Try.prog w a (.float .f64 q) m rfl
  have M1 := Lib.hid (fun w' (f : Frame [] w w') => mv_4 x w' h1.1 h1.2)
  have M2 := Lib.hid (fun w' (f : Frame [] w w') => mv_4 y w' h2.1 h2.2)
  have B0 := Lib.hid (((Blk.new w 39 #[.int .i64 4, .bool false, .slice none 0 0, .int .i64 x, .float .f64 0]).alloc (.cells #[.int .i64 4, .bool false, .slice none 0 0, .int .i64 y, .float .f64 0] 39)).alloc (.cells #[.int .i64 0, .bool false, .slice none 0 0, .int .i64 0, .float .f64 0] 39))
  have B1 := (Blk.new (w.alloc (.cells #[.int .i64 4, .bool false, .slice none 0 0, .int .i64 x, .float .f64 0] 39)) 39 #[.int .i64 4, .bool false, .slice none 0 0, .int .i64 y, .float .f64 0]).alloc (.cells #[.int .i64 0, .bool false, .slice none 0 0, .int .i64 0, .float .f64 0] 39)
  have B2 := Blk.new ((w.alloc (.cells #[.int .i64 4, .bool false, .slice none 0 0, .int .i64 x, .float .f64 0] 39)).alloc (.cells #[.int .i64 4, .bool false, .slice none 0 0, .int .i64 y, .float .f64 0] 39)) 39 #[.int .i64 0, .bool false, .slice none 0 0, .int .i64 0, .float .f64 0]
  simp only [World.size_alloc] at B1 B2
  have B1 := Lib.hid B1
  have B2 := Lib.hid B2
  have F0 : Hid (Frame [] w (((w.alloc (.cells #[.int .i64 4, .bool false, .slice none 0 0, .int .i64 x, .float .f64 0] 39)).alloc (.cells #[.int .i64 4, .bool false, .slice none 0 0, .int .i64 y, .float .f64 0] 39)).alloc (.cells #[.int .i64 0, .bool false, .slice none 0 0, .int .i64 0, .float .f64 0] 39))) := by show Frame [] w _; (repeat first | assumption | exact Frame.refl _ _ | refine Frame.trans1 ?_ (Frame.alloc _ _ _) | refine Frame.trans1 ?_ (Frame.drew _ _) | refine Frame.trans1 ?_ (Frame.drewN _ _ _))
  have H := Lib.hid (And.intro h1 h2)
  clear h1 h2
  go_enter Try.func49, Try.ntmps49
  go_upto_region 1 with fail
  generalize ((w.alloc (.cells #[.int .i64 4, .bool false, .slice none 0 0, .int .i64 x, .float .f64 0] 39)).alloc (.cells #[.int .i64 4, .bool false, .slice none 0 0, .int .i64 y, .float .f64 0] 39)).alloc (.cells #[.int .i64 0, .bool false, .slice none 0 0, .int .i64 0, .float .f64 0] 39) = w0 at *
  obtain ⟨b2, hb2⟩ : ∃ b2, w.heap.size + 1 + 1 = b2 := ⟨_, rfl⟩
  rw [hb2] at B2 ⊢
  obtain ⟨b1, hb1⟩ : ∃ b1, w.heap.size + 1 = b1 := ⟨_, rfl⟩
  rw [hb1] at B1 ⊢
  obtain ⟨b0, hb0⟩ : ∃ b0, w.heap.size = b0 := ⟨_, rfl⟩
  rw [hb0] at B0 ⊢
  have hbw : w.heap.size ≤ b2 := by omega
  have x0 := B0.out.at 0 rfl
  have x1 := B0.out.at 1 rfl
  have x2 := B0.out.at 2 rfl
  have x3 := B0.out.at 3 rfl
  have x4 := B0.out.at 4 rfl
  go_wp2_with fail
  refine (M1.out _ F0.out).mono ?_
  rintro e w1 ⟨rfl, f1⟩
  clear x0 x1 x2 x3 x4
  have C0 := Lib.hid (B0.out.frame f1 (by simp))
  have C1 := Lib.hid (B1.out.frame f1 (by simp))
  have C2 := Lib.hid (B2.out.frame f1 (by simp))
  have F1 := Lib.hid (F0.out.trans1 f1)
  clear f1 B0 B1 B2 F0
  have y0 := C1.out.at 0 rfl
  have y1 := C1.out.at 1 rfl
  have y2 := C1.out.at 2 rfl
  have y3 := C1.out.at 3 rfl
  have y4 := C1.out.at 4 rfl
  go_wp2_with fail
  refine (M2.out _ F1.out).mono ?_
  rintro e w1 ⟨rfl, f1⟩
  clear y0 y1 y2 y3 y4
  have C0 := C0.out.frame f1 (by simp)
  have C1 := C1.out.frame f1 (by simp)
  have C2 := C2.out.frame f1 (by simp)
  have F1 := Lib.hid (F1.out.trans1 f1)
  have x0 := C0.at 0 rfl
  have y0 := C1.at 0 rfl
  clear f1 M1 M2
  go_upto_region 10 with fail
  clear x0 y0
  have E3 := Blk.new w1 39 #[.int .i64 4, .bool false, .slice none 0 0, .int .i64 0, .float .f64 0]
  have C0 := C0.alloc (.cells #[.int .i64 4, .bool false, .slice none 0 0, .int .i64 0, .float .f64 0] 39)
  have C1 := C1.alloc (.cells #[.int .i64 4, .bool false, .slice none 0 0, .int .i64 0, .float .f64 0] 39)
  have h23 : b2 < w1.heap.size := C2.lt
  have h03 : b0 < w1.heap.size ∧ b1 < w1.heap.size := by omega
  have C2 := Lib.hid (C2.alloc (.cells #[.int .i64 4, .bool false, .slice none 0 0, .int .i64 0, .float .f64 0] 39))
  have F2 := Lib.hid (F1.out.trans1 (Frame.alloc [] w1 (.cells #[.int .i64 4, .bool false, .slice none 0 0, .int .i64 0, .float .f64 0] 39)))
  generalize w1.alloc (.cells #[.int .i64 4, .bool false, .slice none 0 0, .int .i64 0, .float .f64 0] 39) = w2 at *
  obtain ⟨b3, hb3⟩ : ∃ b3, w1.heap.size = b3 := ⟨_, rfl⟩
  rw [hb3] at E3 h23 h03 ⊢
  have hne : b2 ∉ [b3] := by simp only [List.mem_singleton]; omega
  have hn0 : b0 ∉ [b3] := by simp only [List.mem_singleton]; omega
  have hn1 : b1 ∉ [b3] := by simp only [List.mem_singleton]; omega
  have hw3 : w.heap.size ≤ b3 := by omega
  have x0 := C0.at 0 rfl
  have x3 := C0.at 3 rfl
  have y3 := C1.at 3 rfl
  have z3 := E3.at 3 rfl
  have zf := E3.frozen
  clear C0 C1
  have hmx : 0 ≤ max x y ∧ max x y ≤ lTop 4 := by have := H.out.1; have := H.out.2; omega
  go_upto_region 34 with fail
  generalize hres : max x y = r at *
  have HRES : Hid ((rgL 4).p x y = r) := hres
  have HM := Lib.hid hmx
  clear hres hmx
  have fS : Frame [b3] w2 (w2.setCell ⟨b3, 3, none⟩ (.int .i64 r)) := Frame.setCell _ _ _ (by simp)
  have E5 : Blk (w2.setCell ⟨b3, 3, none⟩ (.int .i64 r)) b3 39 #[.int .i64 4, .bool false, .slice none 0 0, .int .i64 r, .float .f64 0] := by have := E3.set 3 (.int .i64 r); simpa using this
  have D2 := C2.out.frame fS hne
  have F4 := Lib.hid (F2.out.trans fS (fun x hx => by simp at hx; subst hx; exact .inr hw3))
  clear z3 zf E3 C2 x0 x3 y3
  generalize w2.setCell ⟨b3, 3, none⟩ (.int .i64 r) = w4 at *
  clear fS
  have e0 := E5.at 0 rfl
  have e1 := E5.at 1 rfl
  have e2 := E5.at 2 rfl
  have e3 := E5.at 3 rfl
  have e4 := E5.at 4 rfl
  have y0 := D2.at 0 rfl
  have y1 := D2.at 1 rfl
  have y2 := D2.at 2 rfl
  have y3 := D2.at 3 rfl
  have y4 := D2.at 4 rfl
  have zf := D2.frozen
  have B5 := Lib.hid (putV D2 (.int .i64 4) (.bool false) (.slice none 0 0) (.int .i64 r) (.float .f64 0))
  have F5 := Lib.hid (putV_frame (w := w) (b := b2) (by omega) F4.out (.int .i64 4) (.bool false) (.slice none 0 0) (.int .i64 r) (.float .f64 0))
  have KD := Lib.hid (putV_keep D2 (.int .i64 4) (.bool false) (.slice none 0 0) (.int .i64 r) (.float .f64 0))
  clear D2 E5
  go_wp2_with fail
  refine bodyPost_ret (results_val2 rfl _ _ _ _ _ _ _ _ rfl B5.out) rfl ?_
  exact ⟨_, rfl, by rw [HRES.out]; exact ⟨rfl, HM.out⟩, F5.out⟩
set_option maxHeartbeats 1000000 in
set_option maxRecDepth 100000 in
theorem op1p_5 (x y : Nat) (w : World) (h1 : x ≤ fTop 5) (h2 : y ≤ fTop 5) : Calls Try.prog 49 #[.agg #[.int .i64 5, .bool false, .slice none 0 0, .int .i64 0, .float .f64 x], .agg #[.int .i64 5, .bool false, .slice none 0 0, .int .i64 0, .float .f64 y], .bool false] w (VEnd (IsF 5) ((rgF5).p x y) w) := by
  have hst := fun (w : World) (a : Addr) (q : Nat) (m : Mode) => run_store Try.prog w a (.float .f64 q) m rfl
  have M1 := Lib.hid (fun w' (f : Frame [] w w') => mv_5 x w' h1)
  have M2 := Lib.hid (fun w' (f : Frame [] w w') => mv_5 y w' h2)
  have B0 := Lib.hid (((Blk.new w 39 #[.int .i64 5, .bool false, .slice none 0 0, .int .i64 0, .float .f64 x]).alloc (.cells #[.int .i64 5, .bool false, .slice none 0 0, .int .i64 0, .float .f64 y] 39)).alloc (.cells #[.int .i64 0, .bool false, .slice none 0 0, .int .i64 0, .float .f64 0] 39))
  have B1 := (Blk.new (w.alloc (.cells #[.int .i64 5, .bool false, .slice none 0 0, .int .i64 0, .float .f64 x] 39)) 39 #[.int .i64 5, .bool false, .slice none 0 0, .int .i64 0, .float .f64 y]).alloc (.cells #[.int .i64 0, .bool false, .slice none 0 0, .int .i64 0, .float .f64 0] 39)
  have B2 := Blk.new ((w.alloc (.cells #[.int .i64 5, .bool false, .slice none 0 0, .int .i64 0, .float .f64 x] 39)).alloc (.cells #[.int .i64 5, .bool false, .slice none 0 0, .int .i64 0, .float .f64 y] 39)) 39 #[.int .i64 0, .bool false, .slice none 0 0, .int .i64 0, .float .f64 0]
  simp only [World.size_alloc] at B1 B2
  have B1 := Lib.hid B1
  have B2 := Lib.hid B2
  have F0 : Hid (Frame [] w (((w.alloc (.cells #[.int .i64 5, .bool false, .slice none 0 0, .int .i64 0, .float .f64 x] 39)).alloc (.cells #[.int .i64 5, .bool false, .slice none 0 0, .int .i64 0, .float .f64 y] 39)).alloc (.cells #[.int .i64 0, .bool false, .slice none 0 0, .int .i64 0, .float .f64 0] 39))) := by show Frame [] w _; (repeat first | assumption | exact Frame.refl _ _ | refine Frame.trans1 ?_ (Frame.alloc _ _ _) | refine Frame.trans1 ?_ (Frame.drew _ _) | refine Frame.trans1 ?_ (Frame.drewN _ _ _))
  have H := Lib.hid (And.intro h1 h2)
  clear h1 h2
  go_enter Try.func49, Try.ntmps49
  go_upto_region 1 with fail
  generalize ((w.alloc (.cells #[.int .i64 5, .bool false, .slice none 0 0, .int .i64 0, .float .f64 x] 39)).alloc (.cells #[.int .i64 5, .bool false, .slice none 0 0, .int .i64 0, .float .f64 y] 39)).alloc (.cells #[.int .i64 0, .bool false, .slice none 0 0, .int .i64 0, .float .f64 0] 39) = w0 at *
  obtain ⟨b2, hb2⟩ : ∃ b2, w.heap.size + 1 + 1 = b2 := ⟨_, rfl⟩
  rw [hb2] at B2 ⊢
  obtain ⟨b1, hb1⟩ : ∃ b1, w.heap.size + 1 = b1 := ⟨_, rfl⟩
  rw [hb1] at B1 ⊢
  obtain ⟨b0, hb0⟩ : ∃ b0, w.heap.size = b0 := ⟨_, rfl⟩
  rw [hb0] at B0 ⊢
  have hbw : w.heap.size ≤ b2 := by omega
  have x0 := B0.out.at 0 rfl
  have x1 := B0.out.at 1 rfl
  have x2 := B0.out.at 2 rfl
  have x3 := B0.out.at 3 rfl
  have x4 := B0.out.at 4 rfl
  go_wp2_with fail
  refine (M1.out _ F0.out).mono ?_
  rintro e w1 ⟨rfl, f1⟩
  clear x0 x1 x2 x3 x4
  have C0 := Lib.hid (B0.out.frame f1 (by simp))
  have C1 := Lib.hid (B1.out.frame f1 (by simp))
  have C2 := Lib.hid (B2.out.frame f1 (by simp))
  have F1 := Lib.hid (F0.out.trans1 f1)
  clear f1 B0 B1 B2 F0
  have y0 := C1.out.at 0 rfl
  have y1 := C1.out.at 1 rfl
  have y2 := C1.out.at 2 rfl
  have y3 := C1.out.at 3 rfl
  have y4 := C1.out.at 4 rfl
  go_wp2_with fail
  refine (M2.out _ F1.out).mono ?_
  rintro e w1 ⟨rfl, f1⟩
  clear y0 y1 y2 y3 y4
  have C0 := C0.out.frame f1 (by simp)
  have C1 := C1.out.frame f1 (by simp)
  have C2 := C2.out.frame f1 (by simp)
  have F1 := Lib.hid (F1.out.trans1 f1)
  have x0 := C0.at 0 rfl
  have y0 := C1.at 0 rfl
  clear f1 M1 M2
  go_upto_region 10 with fail
  clear x0 y0
  have E3 := Blk.new w1 39 #[.int .i64 5, .bool false, .slice none 0 0, .int .i64 0, .float .f64 0]
  have C0 := C0.alloc (.cells #[.int .i64 5, .bool false, .slice none 0 0, .int .i64 0, .float .f64 0] 39)
  have C1 := C1.alloc (.cells #[.int .i64 5, .bool false, .slice none 0 0, .int .i64 0, .float .f64 0] 39)
  have h23 : b2 < w1.heap.size := C2.lt
  have h03 : b0 < w1.heap.size ∧ b1 < w1.heap.size := by omega
  have C2 := Lib.hid (C2.alloc (.cells #[.int .i64 5, .bool false, .slice none 0 0, .int .i64 0, .float .f64 0] 39))
  have F2 := Lib.hid (F1.out.trans1 (Frame.alloc [] w1 (.cells #[.int .i64 5, .bool false, .slice none 0 0, .int .i64 0, .float .f64 0] 39)))
  generalize w1.alloc (.cells #[.int .i64 5, .bool false, .slice none 0 0, .int .i64 0, .float .f64 0] 39) = w2 at *
  obtain ⟨b3, hb3⟩ : ∃ b3, w1.heap.size = b3 := ⟨_, rfl⟩
  rw [hb3] at E3 h23 h03 ⊢
  have hne : b2 ∉ [b3] := by simp only [List.mem_singleton]; omega
  have hn0 : b0 ∉ [b3] := by simp only [List.mem_singleton]; omega
  have hn1 : b1 ∉ [b3] := by simp only [List.mem_singleton]; omega
  have hw3 : w.heap.size ≤ b3 := by omega
  have x0 := C0.at 0 rfl
  have x4 := C0.at 4 rfl
  have y4 := C1.at 4 rfl
  have z4 := E3.at 4 rfl
  have zf := E3.frozen
  clear C0 C1
  have hx : x ≤ fInf := Nat.le_trans H.out.1 (by decide)
  have hy : y ≤ fInf := Nat.le_trans H.out.2 (by decide)
  have hmm := fun (t : Array TypeId) (ty : TypeId) (w : World) => fmax_run hx hy t ty w
  have hm : max x y ≤ fTop 5 := by have := H.out.1; have := H.out.2; omega
  generalize hres : max x y = r at *
  have HRES : Hid ((rgF5).p x y = r) := hres
  clear hres hx hy
  go_upto_region 34 with fail
  have fS : Frame [b3] w2 (w2.setCell ⟨b3, 4, none⟩ (.float .f64 r)) := Frame.setCell _ _ _ (by simp)
  have E5 : Blk (w2.setCell ⟨b3, 4, none⟩ (.float .f64 r)) b3 39 #[.int .i64 5, .bool false, .slice none 0 0, .int .i64 0, .float .f64 r] := by have := E3.set 4 (.float .f64 r); simpa using this
  have D2 := C2.out.frame fS hne
  have F4 := Lib.hid (F2.out.trans fS (fun x hx => by simp at hx; subst hx; exact .inr hw3))
  clear z4 zf E3 C2 x0 x4 y4
  generalize w2.setCell ⟨b3, 4, none⟩ (.float .f64 r) = w4 at *
  clear fS
  have e0 := E5.at 0 rfl
  have e1 := E5.at 1 rfl
  have e2 := E5.at 2 rfl
  have e3 := E5.at 3 rfl
  have e4 := E5.at 4 rfl
  have y0 := D2.at 0 rfl
  have y1 := D2.at 1 rfl
  have y2 := D2.at 2 rfl
  have y3 := D2.at 3 rfl
  have y4 := D2.at 4 rfl
  have zf := D2.frozen
  have B5 := Lib.hid (putV D2 (.int .i64 5) (.bool false) (.slice none 0 0) (.int .i64 0) (.float .f64 r))
  have F5 := Lib.hid (putV_frame (w := w) (b := b2) (by omega) F4.out (.int .i64 5) (.bool false) (.slice none 0 0) (.int .i64 0) (.float .f64 r))
  have KD := Lib.hid (putV_keep D2 (.int .i64 5) (.bool false) (.slice none 0 0) (.int .i64 0) (.float .f64 r))
  clear D2 E5
  go_wp2_with fail
  refine bodyPost_ret (results_val2 rfl _ _ _ _ _ _ _ _ rfl B5.out) rfl ?_
  exact ⟨_, rfl, by rw [HRES.out]; exact ⟨rfl, hm⟩, F5.out⟩
set_option maxHeartbeats 1000000 in
set_option maxRecDepth 100000 in
theorem op1p_6 (x y : Nat) (w : World) (h1 : x ≤ fTop 6) (h2 : y ≤ fTop 6) : Calls Try.prog 49 #[.agg #[.int .i64 6, .bool false, .slice none 0 0, .int .i64 0, .float .f64 x], .agg #[.int .i64 6, .bool false, .slice none 0 0, .int .i64 0, .float .f64 y], .bool false] w (VEnd (IsF 6) ((rgF6).p x y) w) := by
  have hst := fun (w : World) (a : Addr) (q : Nat) (m : Mode) => run_store Try.prog w a (.float .f64 q) m rfl
  have M1 := Lib.hid (fun w' (f : Frame [] w w') => mv_6 x w' h1)
  have M2 := Lib.hid (fun w' (f : Frame [] w w') => mv_6 y w' h2)
  have B0 := Lib.hid (((Blk.new w 39 #[.int .i64 6, .bool false, .slice none 0 0, .int .i64 0, .float .f64 x]).alloc (.cells #[.int .i64 6, .bool false, .slice none 0 0, .int .i64 0, .float .f64 y] 39)).alloc (.cells #[.int .i64 0, .bool false, .slice none 0 0, .int .i64 0, .float .f64 0] 39))
  have B1 := (Blk.new (w.alloc (.cells #[.int .i64 6, .bool false, .slice none 0 0, .int .i64 0, .float .f64 x] 39)) 39 #[.int .i64 6, .bool false, .slice none 0 0, .int .i64 0, .float .f64 y]).alloc (.cells #[.int .i64 0, .bool false, .slice none 0 0, .int .i64 0, .float .f64 0] 39)
  have B2 := Blk.new ((w.alloc (.cells #[.int .i64 6, .bool false, .slice none 0 0, .int .i64 0, .float .f64 x] 39)).alloc (.cells #[.int .i64 6, .bool false, .slice none 0 0, .int .i64 0, .float .f64 y] 39)) 39 #[.int .i64 0, .bool false, .slice none 0 0, .int .i64 0, .float .f64 0]
  simp only [World.size_alloc] at B1 B2
  have B1 := Lib.hid B1
  have B2 := Lib.hid B2
  have F0 : Hid (Frame [] w (((w.alloc (.cells #[.int .i64 6, .bool false, .slice none 0 0, .int .i64 0, .float .f64 x] 39)).alloc (.cells #[.int .i64 6, .bool false, .slice none 0 0, .int .i64 0, .float .f64 y] 39)).alloc (.cells #[.int .i64 0, .bool false, .slice none 0 0, .int .i64 0, .float .f64 0] 39))) := by show Frame [] w _; (repeat first | assumption | exact Frame.refl _ _ | refine Frame.trans1 ?_ (Frame.alloc _ _ _) | refine Frame.trans1 ?_ (Frame.drew _ _) | refine Frame.trans1 ?_ (Frame.drewN _ _ _))
  have H := Lib.hid (And.intro h1 h2)
  clear h1 h2
  go_enter Try.func49, Try.ntmps49
  go_upto_region 1 with fail
  generalize ((w.alloc (.cells #[.int .i64 6, .bool false, .slice none 0 0, .int .i64 0, .float .f64 x] 39)).alloc (.cells #[.int .i64 6, .bool false, .slice none 0 0, .int .i64 0, .float .f64 y] 39)).alloc (.cells #[.int .i64 0, .bool false, .slice none 0 0, .int .i64 0, .float .f64 0] 39) = w0 at *
  obtain ⟨b2, hb2⟩ : ∃ b2, w.heap.size + 1 + 1 = b2 := ⟨_, rfl⟩
  rw [hb2] at B2 ⊢
  obtain ⟨b1, hb1⟩ : ∃ b1, w.heap.size + 1 = b1 := ⟨_, rfl⟩
  rw [hb1] at B1 ⊢
  obtain ⟨b0, hb0⟩ : ∃ b0, w.heap.size = b0 := ⟨_, rfl⟩
  rw [hb0] at B0 ⊢
  have hbw : w.heap.size ≤ b2 := by omega
  have x0 := B0.out.at 0 rfl
  have x1 := B0.out.at 1 rfl
  have x2 := B0.out.at 2 rfl
  have x3 := B0.out.at 3 rfl
  have x4 := B0.out.at 4 rfl
  go_wp2_with fail
  refine (M1.out _ F0.out).mono ?_
  rintro e w1 ⟨rfl, f1⟩
  clear x0 x1 x2 x3 x4
  have C0 := Lib.hid (B0.out.frame f1 (by simp))
  have C1 := Lib.hid (B1.out.frame f1 (by simp))
  have C2 := Lib.hid (B2.out.frame f1 (by simp))
  have F1 := Lib.hid (F0.out.trans1 f1)
  clear f1 B0 B1 B2 F0
  have y0 := C1.out.at 0 rfl
  have y1 := C1.out.at 1 rfl
  have y2 := C1.out.at 2 rfl
  have y3 := C1.out.at 3 rfl
  have y4 := C1.out.at 4 rfl
  go_wp2_with fail
  refine (M2.out _ F1.out).mono ?_
  rintro e w1 ⟨rfl, f1⟩
  clear y0 y1 y2 y3 y4
  have C0 := C0.out.frame f1 (by simp)
  have C1 := C1.out.frame f1 (by simp)
  have C2 := C2.out.frame f1 (by simp)
  have F1 := Lib.hid (F1.out.trans1 f1)
  have x0 := C0.at 0 rfl
  have y0 := C1.at 0 rfl
  clear f1 M1 M2
  go_upto_region 10 with fail
  clear x0 y0
  have E3 := Blk.new w1 39 #[.int .i64 6, .bool false, .slice none 0 0, .int .i64 0, .float .f64 0]
  have C0 := C0.alloc (.cells #[.int .i64 6, .bool false, .slice none 0 0, .int .i64 0, .float .f64 0] 39)
  have C1 := C1.alloc (.cells #[.int .i64 6, .bool false, .slice none 0 0, .int .i64 0, .float .f64 0] 39)
  have h23 : b2 < w1.heap.size := C2.lt
  have h03 : b0 < w1.heap.size ∧ b1 < w1.heap.size := by omega
  have C2 := Lib.hid (C2.alloc (.cells #[.int .i64 6, .bool false, .slice none 0 0, .int .i64 0, .float .f64 0] 39))
  have F2 := Lib.hid (F1.out.trans1 (Frame.alloc [] w1 (.cells #[.int .i64 6, .bool false, .slice none 0 0, .int .i64 0, .float .f64 0] 39)))
  generalize w1.alloc (.cells #[.int .i64 6, .bool false, .slice none 0 0, .int .i64 0, .float .f64 0] 39) = w2 at *
  obtain ⟨b3, hb3⟩ : ∃ b3, w1.heap.size = b3 := ⟨_, rfl⟩
  rw [hb3] at E3 h23 h03 ⊢
  have hne : b2 ∉ [b3] := by simp only [List.mem_singleton]; omega
  have hn0 : b0 ∉ [b3] := by simp only [List.mem_singleton]; omega
  have hn1 : b1 ∉ [b3] := by simp only [List.mem_singleton]; omega
  have hw3 : w.heap.size ≤ b3 := by omega
  have x0 := C0.at 0 rfl
  have x4 := C0.at 4 rfl
  have y4 := C1.at 4 rfl
  have z4 := E3.at 4 rfl
  have zf := E3.frozen
  clear C0 C1
  have hx : x ≤ fInf := Nat.le_trans H.out.1 (by decide)
  have hy : y ≤ fInf := Nat.le_trans H.out.2 (by decide)
  have hmm := fun (t : Array TypeId) (ty : TypeId) (w : World) => fmin_run hx hy t ty w
  have hm : min x y ≤ fTop 6 := by have := H.out.1; have := H.out.2; omega
  generalize hres : min x y = r at *
  have HRES : Hid ((rgF6).p x y = r) := hres
  clear hres hx hy
  go_upto_region 34 with fail
  have fS : Frame [b3] w2 (w2.setCell ⟨b3, 4, none⟩ (.float .f64 r)) := Frame.setCell _ _ _ (by simp)
  have E5 : Blk (w2.setCell ⟨b3, 4, none⟩ (.float .f64 r)) b3 39 #[.int .i64 6, .bool false, .slice none 0 0, .int .i64 0, .float .f64 r] := by have := E3.set 4 (.float .f64 r); simpa using this
  have D2 := C2.out.frame fS hne
  have F4 := Lib.hid (F2.out.trans fS (fun x hx => by simp at hx; subst hx; exact .inr hw3))
  clear z4 zf E3 C2 x0 x4 y4
  generalize w2.setCell ⟨b3, 4, none⟩ (.float .f64 r) = w4 at *
  clear fS
  have e0 := E5.at 0 rfl
  have e1 := E5.at 1 rfl
  have e2 := E5.at 2 rfl
  have e3 := E5.at 3 rfl
  have e4 := E5.at 4 rfl
  have y0 := D2.at 0 rfl
  have y1 := D2.at 1 rfl
  have y2 := D2.at 2 rfl
  have y3 := D2.at 3 rfl
  have y4 := D2.at 4 rfl
  have zf := D2.frozen
  have B5 := Lib.hid (putV D2 (.int .i64 6) (.bool false) (.slice none 0 0) (.int .i64 0) (.float .f64 r))
  have F5 := Lib.hid (putV_frame (w := w) (b := b2) (by omega) F4.out (.int .i64 6) (.bool false) (.slice none 0 0) (.int .i64 0) (.float .f64 r))
  have KD := Lib.hid (putV_keep D2 (.int .i64 6) (.bool false) (.slice none 0 0) (.int .i64 0) (.float .f64 r))
  clear D2 E5
  go_wp2_with fail
  refine bodyPost_ret (results_val2 rfl _ _ _ _ _ _ _ _ rfl B5.out) rfl ?_
  exact ⟨_, rfl, by rw [HRES.out]; exact ⟨rfl, hm⟩, F5.out⟩
end Go.Proofs.Ytbnhhmejlglbcaa

