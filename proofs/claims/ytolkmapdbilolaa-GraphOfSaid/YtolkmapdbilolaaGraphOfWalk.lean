/- The law GraphOf, walked. -/
import Derived.Test.YtolkmapdbilolaaOf
import Derived.Test.YtolkmapdbilolaaWeight
import Derived.Test.YtolkmapdbilolaaAwake10
namespace Go.Proofs.Ytolkmapdbilolaa
open Go.RowKit
set_option linter.unusedSimpArgs false
set_option linter.unusedVariables false

set_option maxHeartbeats 8000000 in
set_option maxRecDepth 100000 in
theorem graphOf_any (U : Nat → Prop) (v1 v2 : Value) (x y : Gx) (w : World) (h1 : RG U w v1 x) (h2 : RG U w v2 y) (l1 : LenX x) (l2 : LenX y) (t1 : StrX x) (t2 : StrX y) :
    Calls Try.prog 10 #[v1, v2] w fun e w' => e = .returned (.bool true) ∧ Frame [] w w' := by
  have R1 := Lib.hid h1
  have R2 := Lib.hid h2
  have W1 := Lib.hid (fun w' (f : Frame [] w w') => weight_any U v1 x w' (h1.frame0 f) l1 t1)
  have W2 := Lib.hid (fun w' (f : Frame [] w w') => weight_any U v2 y w' (h2.frame0 f) l2 t2)
  have T1 := Lib.hid t1
  have T2 := Lib.hid t2
  obtain ⟨an, nc, ae, ec, rfl, -, -⟩ := h1
  obtain ⟨bn, mc, be, dc, rfl, -, -⟩ := h2
  clear l1 l2 t1 t2
  go_enter Try.func10, Try.ntmps10
  go_wp2_with fail
  have fr : Frame [] w ((w.alloc (.cells #[.slice an x.ns.length nc, .slice ae x.es.length ec, .int .i64 x.next] 55)).alloc (.cells #[.slice bn y.ns.length mc, .slice be y.es.length dc, .int .i64 y.next] 55)) := (Frame.alloc _ _ _).trans1 (Frame.alloc _ _ _)
  have b0 := (Blk.new w 55 #[.slice an x.ns.length nc, .slice ae x.es.length ec, .int .i64 x.next]).alloc (.cells #[.slice bn y.ns.length mc, .slice be y.es.length dc, .int .i64 y.next] 55)
  have b1 := Blk.new (w.alloc (.cells #[.slice an x.ns.length nc, .slice ae x.es.length ec, .int .i64 x.next] 55)) 55 #[.slice bn y.ns.length mc, .slice be y.es.length dc, .int .i64 y.next]
  simp only [World.size_alloc] at b1
  generalize (w.alloc (.cells #[.slice an x.ns.length nc, .slice ae x.es.length ec, .int .i64 x.next] 55)).alloc (.cells #[.slice bn y.ns.length mc, .slice be y.es.length dc, .int .i64 y.next] 55) = wa at *
  have B0 := Lib.hid b0
  have B1 := Lib.hid b1
  refine (W1.out wa fr).mono ?_
  have FR := Lib.hid fr
  clear fr b0 b1 W1
  rintro e w1 ⟨n1, rfl, hn1, f1⟩
  have F1 := Lib.hid (FR.out.trans1 f1)
  have y0 := (B1.out.frame f1 (by simp)).at 0 rfl
  have y1 := (B1.out.frame f1 (by simp)).at 1 rfl
  have y2 := (B1.out.frame f1 (by simp)).at 2 rfl
  have B0 := Lib.hid (B0.out.frame f1 (by simp))
  have B1 := Lib.hid (B1.out.frame f1 (by simp))
  clear f1
  by_cases hb1 : 2000 < n1
  case pos =>
    have hd : decide (2000 < n1) = true := by simpa using hb1
    clear hn1
    go_wp2_with fail
    refine (awake10 _).mono ?_
    rintro e w2 ⟨rfl, f2⟩
    have F2 := Lib.hid (F1.out.trans1 f2)
    clear f2
    go_wp2_with fail
    go_ret
    exact ⟨rfl, F2.out⟩
  have hd : decide (2000 < n1) = false := by simpa using hb1
  have S1 := Lib.hid (hn1 (by omega))
  clear hn1 hb1
  go_wp2_with fail
  refine (W2.out w1 F1.out).mono ?_
  clear W2 y0 y1 y2 hd
  rintro e w2 ⟨n2, rfl, hn2, f2⟩
  have F2 := Lib.hid (F1.out.trans1 f2)
  have B0 := Lib.hid (B0.out.frame f2 (by simp))
  have B1 := Lib.hid (B1.out.frame f2 (by simp))
  clear f2 F1
  by_cases hb2 : 2000 < n2
  case pos =>
    have hd : decide (2000 < n2) = true := by simpa using hb2
    clear hn2
    go_wp2_with fail
    refine (awake10 _).mono ?_
    rintro e w3 ⟨rfl, f3⟩
    have F3 := Lib.hid (F2.out.trans1 f3)
    clear f3
    go_wp2_with fail
    go_ret
    exact ⟨rfl, F3.out⟩
  have hd : decide (2000 < n2) = false := by simpa using hb2
  have S2 := Lib.hid (hn2 (by omega))
  clear hn2 hb2
  have x0 := B0.out.at 0 rfl
  have x1 := B0.out.at 1 rfl
  have x2 := B0.out.at 2 rfl
  go_wp2_with fail
  refine (of_any U _ x w2 (R1.out.frame0 F2.out) S1.out T1.out).mono ?_
  clear hd x0 x1 x2
  rintro e w3 (⟨hmay, rfl, f3⟩ | ⟨hmay, pb, rfl, hown⟩)
  · have F3 := Lib.hid (F2.out.trans1 f3)
    have B0 := Lib.hid (B0.out.frame f3 (by simp))
    have B1 := Lib.hid (B1.out.frame f3 (by simp))
    have HM := Lib.hid hmay
    clear f3 hmay F2
    have x0 := B0.out.at 0 rfl
    have x1 := B0.out.at 1 rfl
    have x2 := B0.out.at 2 rfl
    go_wp2_with fail
    refine (Ans.no (may_any U _ x w3 (R1.out.frame0 F3.out) S1.out T1.out) HM.out).mono ?_
    clear x0 x1 x2
    rintro e w4 ⟨rfl, f4⟩
    have F4 := Lib.hid (F3.out.trans1 f4)
    have B0 := Lib.hid (B0.out.frame f4 (by simp))
    have B1 := Lib.hid (B1.out.frame f4 (by simp))
    clear f4 F3
    have X0 := framed_cell (B0.out.at 0 rfl)
    have X1 := framed_cell (B0.out.at 1 rfl)
    have X2 := framed_cell (B0.out.at 2 rfl)
    have Y0 := framed_cell (B1.out.at 0 rfl)
    have Y1 := framed_cell (B1.out.at 1 rfl)
    have Y2 := framed_cell (B1.out.at 2 rfl)
    have HG := Lib.hid (fun w' (f : Frame [] w4 w') => gsame_any U U _ _ x y w' (R1.out.frame0 (F4.out.trans1 f)) (R2.out.frame0 (F4.out.trans1 f)) S1.out S2.out)
    have HR := Lib.hid (fun w' (f : Frame [] w4 w') => rsame_any U U _ _ x y w' (R1.out.frame0 (F4.out.trans1 f)) (R2.out.frame0 (F4.out.trans1 f)) S1.out S2.out)
    by_cases hxy : x = y
    · have HG' := Lib.hid (fun w' f => Ans.yes (HG.out w' f) hxy)
      have HR' := Lib.hid (fun w' f => Ans.yes (HR.out w' f) hxy)
      clear hxy HG HR
      go_wp2_with fail
      refine wp_region_framed (by kernel_rfl) (by kernel_rfl) ?_
      repeat (go_big_quiet_step ((first | (go_at_call 41; exact framed_of (HG'.out _ (FramedBy.h _))) | (go_at_call 42; exact framed_of (HR'.out _ (FramedBy.h _))) | (go_at_call 26; exact framed_of (awake10 _)))))
      refine wpQuiet_nil ?_
      intro w6 hw
      have f6 := framed_out hw
      clear hw
      go_wp2_with fail
      go_ret
      exact ⟨rfl, F4.out.trans1 f6⟩
    · have HG' := Lib.hid (fun w' f => Ans.no (HG.out w' f) hxy)
      have HR' := Lib.hid (fun w' f => Ans.no (HR.out w' f) hxy)
      clear hxy HG HR
      go_wp2_with fail
      refine wp_region_framed (by kernel_rfl) (by kernel_rfl) ?_
      repeat (go_big_quiet_step ((first | (go_at_call 41; exact framed_of (HG'.out _ (FramedBy.h _))) | (go_at_call 42; exact framed_of (HR'.out _ (FramedBy.h _))) | (go_at_call 26; exact framed_of (awake10 _)))))
      refine wpQuiet_nil ?_
      intro w6 hw
      have f6 := framed_out hw
      clear hw
      go_wp2_with fail
      go_ret
      exact ⟨rfl, F4.out.trans1 f6⟩
  · have F3 := Lib.hid (F2.out.trans1 (VOwn.frame hown))
    have B0 := Lib.hid (B0.out.frame (VOwn.frame hown) (by simp))
    have B1 := Lib.hid (B1.out.frame (VOwn.frame hown) (by simp))
    have HM := Lib.hid hmay
    have HO := Lib.hid hown
    clear hown hmay F2
    have x0 := B0.out.at 0 rfl
    have x1 := B0.out.at 1 rfl
    have x2 := B0.out.at 2 rfl
    go_wp2_with fail
    refine (Ans.yes (may_any U _ x w3 (R1.out.frame0 F3.out) S1.out T1.out) HM.out).mono ?_
    clear x0 x1 x2
    rintro e w4 ⟨rfl, f4⟩
    have F4 := Lib.hid (F3.out.trans1 f4)
    have B0 := Lib.hid (B0.out.frame f4 (by simp))
    have B1 := Lib.hid (B1.out.frame f4 (by simp))
    have HO := Lib.hid (HO.out.quiet f4)
    clear f4 F3
    have x0 := B0.out.at 0 rfl
    have x1 := B0.out.at 1 rfl
    have x2 := B0.out.at 2 rfl
    have y0 := B1.out.at 0 rfl
    have y1 := B1.out.at 1 rfl
    have y2 := B1.out.at 2 rfl
    have hx1 : (⟨x.ns, x.es, x.next - 1 + 1⟩ : Gx) = x := Gx.ext rfl rfl (by show x.next - 1 + 1 = x.next; omega)
    have HALL : Hid (∀ w', Frame [] w4 w' → Calls Try.prog 32 #[.pointer (some ⟨pb, 0, none⟩)] w' (AllEnd x w')) := by
      show ∀ w', _
      intro w' f
      have := own_all (HO.out.quiet f) HM.out.gok
      rw [hx1] at this
      exact this
    have HS := Lib.hid (fun w' (f : Frame [] w4 w') wb u (hr : RG (fun b => wb ≤ b) w' u x) => Ans.yes (rsame_any (fun b => wb ≤ b) U u (.agg #[.slice an x.ns.length nc, .slice ae x.es.length ec, .int .i64 x.next]) x x w' hr (R1.out.frame0 (F4.out.trans1 f)) S1.out S1.out) rfl)
    have HG := Lib.hid (fun w' (f : Frame [] w4 w') => gsame_any U U _ _ x y w' (R1.out.frame0 (F4.out.trans1 f)) (R2.out.frame0 (F4.out.trans1 f)) S1.out S2.out)
    have HR := Lib.hid (fun w' (f : Frame [] w4 w') => rsame_any U U _ _ x y w' (R1.out.frame0 (F4.out.trans1 f)) (R2.out.frame0 (F4.out.trans1 f)) S1.out S2.out)
    clear hx1
    by_cases hxy : x = y
    · have HG' := Lib.hid (fun w' f => Ans.yes (HG.out w' f) hxy)
      have HR' := Lib.hid (fun w' f => Ans.yes (HR.out w' f) hxy)
      clear hxy HG HR
      go_wp2_with fail
      go_region_held3 (fun w' => w'.cell? ⟨w.heap.size, 0, none⟩ = some (.slice an x.ns.length nc) ∧ w'.cell? ⟨w.heap.size, 1, none⟩ = some (.slice ae x.es.length ec) ∧ w'.cell? ⟨w.heap.size, 2, none⟩ = some (.int .i64 x.next) ∧ w'.cell? ⟨w.heap.size + 1, 0, none⟩ = some (.slice bn y.ns.length mc) ∧ w'.cell? ⟨w.heap.size + 1, 1, none⟩ = some (.slice be y.es.length dc) ∧ w'.cell? ⟨w.heap.size + 1, 2, none⟩ = some (.int .i64 y.next)) (go_keep)
        ((first
          | (go_at_call 32; refine (HALL.out _ (by (repeat first | assumption | exact Frame.refl _ _ | refine Frame.trans1 ?_ (Frame.alloc _ _ _) | refine Frame.trans1 ?_ (Frame.drew _ _) | refine Frame.trans1 ?_ (Frame.drewN _ _ _)))).mono ?_; rintro e w6 ⟨u, rfl, rg, f6⟩; have F6 : Frame [] w4 w6 := (show Frame [] w4 _ from by (repeat first | assumption | exact Frame.refl _ _ | refine Frame.trans1 ?_ (Frame.alloc _ _ _) | refine Frame.trans1 ?_ (Frame.drew _ _) | refine Frame.trans1 ?_ (Frame.drewN _ _ _))).trans1 f6; have RGU := Lib.hid rg; have q0 := (B0.out.frame F6 (by simp)).at 0 rfl; have q1 := (B0.out.frame F6 (by simp)).at 1 rfl; have q2 := (B0.out.frame F6 (by simp)).at 2 rfl; have q3 := (B1.out.frame F6 (by simp)).at 0 rfl; have q4 := (B1.out.frame F6 (by simp)).at 1 rfl; have q5 := (B1.out.frame F6 (by simp)).at 2 rfl; clear rg f6)
          | (go_at_call 26; refine (awake10 _).mono ?_; rintro e w9 ⟨rfl, f9⟩; have F9 : Frame [] w4 w9 := (show Frame [] w4 _ from by (repeat first | assumption | exact Frame.refl _ _ | refine Frame.trans1 ?_ (Frame.alloc _ _ _) | refine Frame.trans1 ?_ (Frame.drew _ _) | refine Frame.trans1 ?_ (Frame.drewN _ _ _))).trans1 f9; have q0 := (B0.out.frame F9 (by simp)).at 0 rfl; have q1 := (B0.out.frame F9 (by simp)).at 1 rfl; have q2 := (B0.out.frame F9 (by simp)).at 2 rfl; have q3 := (B1.out.frame F9 (by simp)).at 0 rfl; have q4 := (B1.out.frame F9 (by simp)).at 1 rfl; have q5 := (B1.out.frame F9 (by simp)).at 2 rfl)
          | (go_at_call_of 42 u; refine (HS.out _ (by (repeat first | assumption | exact Frame.refl _ _ | refine Frame.trans1 ?_ (Frame.alloc _ _ _) | refine Frame.trans1 ?_ (Frame.drew _ _) | refine Frame.trans1 ?_ (Frame.drewN _ _ _))) _ u (RGU.out.frame0 (by (repeat first | assumption | exact Frame.refl _ _ | refine Frame.trans1 ?_ (Frame.alloc _ _ _) | refine Frame.trans1 ?_ (Frame.drew _ _) | refine Frame.trans1 ?_ (Frame.drewN _ _ _))))).mono ?_; rintro e w7 ⟨rfl, f7⟩; have F7 : Frame [] w4 w7 := (show Frame [] w4 _ from by (repeat first | assumption | exact Frame.refl _ _ | refine Frame.trans1 ?_ (Frame.alloc _ _ _) | refine Frame.trans1 ?_ (Frame.drew _ _) | refine Frame.trans1 ?_ (Frame.drewN _ _ _))).trans1 f7; have q0 := (B0.out.frame F7 (by simp)).at 0 rfl; have q1 := (B0.out.frame F7 (by simp)).at 1 rfl; have q2 := (B0.out.frame F7 (by simp)).at 2 rfl; have q3 := (B1.out.frame F7 (by simp)).at 0 rfl; have q4 := (B1.out.frame F7 (by simp)).at 1 rfl; have q5 := (B1.out.frame F7 (by simp)).at 2 rfl; clear f7)
          | (go_at_call 41; refine (HG'.out _ (by (repeat first | assumption | exact Frame.refl _ _ | refine Frame.trans1 ?_ (Frame.alloc _ _ _) | refine Frame.trans1 ?_ (Frame.drew _ _) | refine Frame.trans1 ?_ (Frame.drewN _ _ _)))).mono ?_; rintro e w8 ⟨rfl, f8⟩; have F8 : Frame [] w4 w8 := (show Frame [] w4 _ from by (repeat first | assumption | exact Frame.refl _ _ | refine Frame.trans1 ?_ (Frame.alloc _ _ _) | refine Frame.trans1 ?_ (Frame.drew _ _) | refine Frame.trans1 ?_ (Frame.drewN _ _ _))).trans1 f8; have q0 := (B0.out.frame F8 (by simp)).at 0 rfl; have q1 := (B0.out.frame F8 (by simp)).at 1 rfl; have q2 := (B0.out.frame F8 (by simp)).at 2 rfl; have q3 := (B1.out.frame F8 (by simp)).at 0 rfl; have q4 := (B1.out.frame F8 (by simp)).at 1 rfl; have q5 := (B1.out.frame F8 (by simp)).at 2 rfl; clear f8)
          | (go_at_call_of 42 bn; refine (HR'.out _ (by (repeat first | assumption | exact Frame.refl _ _ | refine Frame.trans1 ?_ (Frame.alloc _ _ _) | refine Frame.trans1 ?_ (Frame.drew _ _) | refine Frame.trans1 ?_ (Frame.drewN _ _ _)))).mono ?_; rintro e w5 ⟨rfl, f5⟩; have F5 : Frame [] w4 w5 := (show Frame [] w4 _ from by (repeat first | assumption | exact Frame.refl _ _ | refine Frame.trans1 ?_ (Frame.alloc _ _ _) | refine Frame.trans1 ?_ (Frame.drew _ _) | refine Frame.trans1 ?_ (Frame.drewN _ _ _))).trans1 f5; have q0 := (B0.out.frame F5 (by simp)).at 0 rfl; have q1 := (B0.out.frame F5 (by simp)).at 1 rfl; have q2 := (B0.out.frame F5 (by simp)).at 2 rfl; have q3 := (B1.out.frame F5 (by simp)).at 0 rfl; have q4 := (B1.out.frame F5 (by simp)).at 1 rfl; have q5 := (B1.out.frame F5 (by simp)).at 2 rfl; clear f5)))
      all_goals
        go_wp2_with fail
        go_ret
        exact ⟨rfl, F4.out.trans1 ((by assumption : Frame [] w4 w9).trans1 (by (repeat first | assumption | exact Frame.refl _ _ | refine Frame.trans1 ?_ (Frame.alloc _ _ _) | refine Frame.trans1 ?_ (Frame.drew _ _) | refine Frame.trans1 ?_ (Frame.drewN _ _ _))))⟩
    · have HG' := Lib.hid (fun w' f => Ans.no (HG.out w' f) hxy)
      have HR' := Lib.hid (fun w' f => Ans.no (HR.out w' f) hxy)
      clear hxy HG HR
      go_wp2_with fail
      go_region_held3 (fun w' => w'.cell? ⟨w.heap.size, 0, none⟩ = some (.slice an x.ns.length nc) ∧ w'.cell? ⟨w.heap.size, 1, none⟩ = some (.slice ae x.es.length ec) ∧ w'.cell? ⟨w.heap.size, 2, none⟩ = some (.int .i64 x.next) ∧ w'.cell? ⟨w.heap.size + 1, 0, none⟩ = some (.slice bn y.ns.length mc) ∧ w'.cell? ⟨w.heap.size + 1, 1, none⟩ = some (.slice be y.es.length dc) ∧ w'.cell? ⟨w.heap.size + 1, 2, none⟩ = some (.int .i64 y.next)) (go_keep)
        ((first
          | (go_at_call 32; refine (HALL.out _ (by (repeat first | assumption | exact Frame.refl _ _ | refine Frame.trans1 ?_ (Frame.alloc _ _ _) | refine Frame.trans1 ?_ (Frame.drew _ _) | refine Frame.trans1 ?_ (Frame.drewN _ _ _)))).mono ?_; rintro e w6 ⟨u, rfl, rg, f6⟩; have F6 : Frame [] w4 w6 := (show Frame [] w4 _ from by (repeat first | assumption | exact Frame.refl _ _ | refine Frame.trans1 ?_ (Frame.alloc _ _ _) | refine Frame.trans1 ?_ (Frame.drew _ _) | refine Frame.trans1 ?_ (Frame.drewN _ _ _))).trans1 f6; have RGU := Lib.hid rg; have q0 := (B0.out.frame F6 (by simp)).at 0 rfl; have q1 := (B0.out.frame F6 (by simp)).at 1 rfl; have q2 := (B0.out.frame F6 (by simp)).at 2 rfl; have q3 := (B1.out.frame F6 (by simp)).at 0 rfl; have q4 := (B1.out.frame F6 (by simp)).at 1 rfl; have q5 := (B1.out.frame F6 (by simp)).at 2 rfl; clear rg f6)
          | (go_at_call 26; refine (awake10 _).mono ?_; rintro e w9 ⟨rfl, f9⟩; have F9 : Frame [] w4 w9 := (show Frame [] w4 _ from by (repeat first | assumption | exact Frame.refl _ _ | refine Frame.trans1 ?_ (Frame.alloc _ _ _) | refine Frame.trans1 ?_ (Frame.drew _ _) | refine Frame.trans1 ?_ (Frame.drewN _ _ _))).trans1 f9; have q0 := (B0.out.frame F9 (by simp)).at 0 rfl; have q1 := (B0.out.frame F9 (by simp)).at 1 rfl; have q2 := (B0.out.frame F9 (by simp)).at 2 rfl; have q3 := (B1.out.frame F9 (by simp)).at 0 rfl; have q4 := (B1.out.frame F9 (by simp)).at 1 rfl; have q5 := (B1.out.frame F9 (by simp)).at 2 rfl)
          | (go_at_call_of 42 u; refine (HS.out _ (by (repeat first | assumption | exact Frame.refl _ _ | refine Frame.trans1 ?_ (Frame.alloc _ _ _) | refine Frame.trans1 ?_ (Frame.drew _ _) | refine Frame.trans1 ?_ (Frame.drewN _ _ _))) _ u (RGU.out.frame0 (by (repeat first | assumption | exact Frame.refl _ _ | refine Frame.trans1 ?_ (Frame.alloc _ _ _) | refine Frame.trans1 ?_ (Frame.drew _ _) | refine Frame.trans1 ?_ (Frame.drewN _ _ _))))).mono ?_; rintro e w7 ⟨rfl, f7⟩; have F7 : Frame [] w4 w7 := (show Frame [] w4 _ from by (repeat first | assumption | exact Frame.refl _ _ | refine Frame.trans1 ?_ (Frame.alloc _ _ _) | refine Frame.trans1 ?_ (Frame.drew _ _) | refine Frame.trans1 ?_ (Frame.drewN _ _ _))).trans1 f7; have q0 := (B0.out.frame F7 (by simp)).at 0 rfl; have q1 := (B0.out.frame F7 (by simp)).at 1 rfl; have q2 := (B0.out.frame F7 (by simp)).at 2 rfl; have q3 := (B1.out.frame F7 (by simp)).at 0 rfl; have q4 := (B1.out.frame F7 (by simp)).at 1 rfl; have q5 := (B1.out.frame F7 (by simp)).at 2 rfl; clear f7)
          | (go_at_call 41; refine (HG'.out _ (by (repeat first | assumption | exact Frame.refl _ _ | refine Frame.trans1 ?_ (Frame.alloc _ _ _) | refine Frame.trans1 ?_ (Frame.drew _ _) | refine Frame.trans1 ?_ (Frame.drewN _ _ _)))).mono ?_; rintro e w8 ⟨rfl, f8⟩; have F8 : Frame [] w4 w8 := (show Frame [] w4 _ from by (repeat first | assumption | exact Frame.refl _ _ | refine Frame.trans1 ?_ (Frame.alloc _ _ _) | refine Frame.trans1 ?_ (Frame.drew _ _) | refine Frame.trans1 ?_ (Frame.drewN _ _ _))).trans1 f8; have q0 := (B0.out.frame F8 (by simp)).at 0 rfl; have q1 := (B0.out.frame F8 (by simp)).at 1 rfl; have q2 := (B0.out.frame F8 (by simp)).at 2 rfl; have q3 := (B1.out.frame F8 (by simp)).at 0 rfl; have q4 := (B1.out.frame F8 (by simp)).at 1 rfl; have q5 := (B1.out.frame F8 (by simp)).at 2 rfl; clear f8)
          | (go_at_call_of 42 bn; refine (HR'.out _ (by (repeat first | assumption | exact Frame.refl _ _ | refine Frame.trans1 ?_ (Frame.alloc _ _ _) | refine Frame.trans1 ?_ (Frame.drew _ _) | refine Frame.trans1 ?_ (Frame.drewN _ _ _)))).mono ?_; rintro e w5 ⟨rfl, f5⟩; have F5 : Frame [] w4 w5 := (show Frame [] w4 _ from by (repeat first | assumption | exact Frame.refl _ _ | refine Frame.trans1 ?_ (Frame.alloc _ _ _) | refine Frame.trans1 ?_ (Frame.drew _ _) | refine Frame.trans1 ?_ (Frame.drewN _ _ _))).trans1 f5; have q0 := (B0.out.frame F5 (by simp)).at 0 rfl; have q1 := (B0.out.frame F5 (by simp)).at 1 rfl; have q2 := (B0.out.frame F5 (by simp)).at 2 rfl; have q3 := (B1.out.frame F5 (by simp)).at 0 rfl; have q4 := (B1.out.frame F5 (by simp)).at 1 rfl; have q5 := (B1.out.frame F5 (by simp)).at 2 rfl; clear f5)))
      all_goals
        go_wp2_with fail
        go_ret
        exact ⟨rfl, F4.out.trans1 ((by assumption : Frame [] w4 w9).trans1 (by (repeat first | assumption | exact Frame.refl _ _ | refine Frame.trans1 ?_ (Frame.alloc _ _ _) | refine Frame.trans1 ?_ (Frame.drew _ _) | refine Frame.trans1 ?_ (Frame.drewN _ _ _))))⟩
end Go.Proofs.Ytolkmapdbilolaa
