/- slices.Equal, EqualFunc; graph.Same: are two graphs that are told one? (printed by gen_equal.py) -/
import Derived.Test.YtjcajidgaejhoaaGreatMi17
import Derived.Test.YtjcajidgaejhoaaGreatMi12
namespace Go.Proofs.YtjcajidgaejhoaaGreat
open Go.RowKit
set_option linter.unusedSimpArgs false
set_option linter.unusedVariables false

set_option maxHeartbeats 2000000 in
theorem equal_str (U1 U2 : Nat → Prop) (a1 a2 : Option Addr) (c1 c2 : Nat) (xs ys : List ByteArray) (w : World) (h1 : RF U1 w 1 encS a1 xs) (h2 : RF U2 w 1 encS a2 ys) (l1 : xs.length ≤ 1000000) (l2 : ys.length ≤ 1000000) :
    Calls Tryz.prog 87 #[.slice a1 xs.length c1, .slice a2 ys.length c2] w (Ans (xs = ys) w) := by
  have H1 := Lib.hid h1
  have H2 := Lib.hid h2
  clear h1 h2
  by_cases hlen : xs.length = ys.length
  case neg =>
    have hn := nat_bne_true hlen
    have HL := Lib.hid hlen
    clear hlen
    go_enter Tryz.func87, Tryz.ntmps87
    go_wp2_with fail
    go_ret
    exact Ans.mkF (fun e => HL.out (by rw [e])) (Frame.refl _ _)
  have HL := Lib.hid hlen
  have hle : ys.length ≤ xs.length := by omega
  have hge : xs.length ≤ ys.length := by omega
  have hn := nat_bne_false hlen
  clear hlen
  go_enter Tryz.func87, Tryz.ntmps87
  go_wp2_with fail
  go_loopw [13] (fun i wr => ∃ k : Nat, k ≤ xs.length ∧ i = .int .i64 k ∧ Hid (Frame [] w wr ∧ ∀ j, j < k → xs[j]? = ys[j]?)) (fun i _ => xs.length - (intOf i).toNat)
  case atStart => exact ⟨0, Nat.zero_le _, rfl, Frame.refl _ _, fun j h => by omega⟩
  case round =>
    obtain ⟨k, hk, rfl, hR⟩ := hrel
    by_cases hlt : k < xs.length
    · have g1 : xs[k]? = some xs[k] := by simp [hlt]
      have hlt2 : k < ys.length := by omega
      have g2 : ys[k]? = some ys[k] := by simp [hlt2]
      obtain ⟨b1, o1, rfl, -, q1⟩ := (H1.out.frame0 hR.out.1) k _ g1
      obtain ⟨b2, o2, rfl, -, q2⟩ := (H2.out.frame0 hR.out.1) k _ g2
      have x0 := q1 0 _ rfl
      have y0 := q2 0 _ rfl
      simp only [Nat.add_zero, Nat.mul_one] at x0 y0
      generalize xs[k] = x at *
      generalize ys[k] = y at *
      have G1 := Lib.hid g1
      have G2 := Lib.hid g2
      clear q1 q2 g1 g2
      by_cases hxy : x = y
      case pos =>
          have hb := beq_toList_true hxy
          have HX := Lib.hid hxy
          clear hxy
          go_wp2_with fail
          go_quiet (fail)
          go_wp2_with fail
          go_roundw
          case rel => exact ⟨k + 1, by omega, by first | rfl | go_num, Lib.hid ⟨hR.out.1.trans1 (Frame.drewN _ _ _), get_step hR.out.2 G1.out (by rw [HX.out]; exact G2.out)⟩⟩
          case measure => first | (simp [intOf]; done) | (simp [intOf]; omega)
      case neg =>
          have hb := beq_toList_false hxy
          have HX := Lib.hid hxy
          clear hxy
          go_wp2_with fail
          go_quiet (fail)
          go_wp2_with fail
          go_ret
          refine Ans.mkF (fun e => ?_) (hR.out.1.trans1 (Frame.drewN _ _ _))
          subst e
          have := G1.out.symm.trans G2.out
          simp at this
          exact HX.out this
    · obtain rfl : k = xs.length := by omega
      go_wp2_with fail
      go_ret
      exact Ans.mkT (list_eq_of_get HL.out hR.out.2) (hR.out.1.trans1 (by (repeat first | assumption | exact Frame.refl _ _ | refine Frame.trans1 ?_ (Frame.alloc _ _ _) | refine Frame.trans1 ?_ (Frame.drew _ _) | refine Frame.trans1 ?_ (Frame.drewN _ _ _))))

set_option maxHeartbeats 2000000 in
theorem equal_prop (U1 U2 : Nat → Prop) (a1 a2 : Option Addr) (c1 c2 : Nat) (xs ys : List Pr) (w : World) (h1 : RF U1 w 2 Pr.cs a1 xs) (h2 : RF U2 w 2 Pr.cs a2 ys) (l1 : xs.length ≤ 1000000) (l2 : ys.length ≤ 1000000) :
    Calls Tryz.prog 88 #[.slice a1 xs.length c1, .slice a2 ys.length c2] w (Ans (xs = ys) w) := by
  have H1 := Lib.hid h1
  have H2 := Lib.hid h2
  clear h1 h2
  by_cases hlen : xs.length = ys.length
  case neg =>
    have hn := nat_bne_true hlen
    have HL := Lib.hid hlen
    clear hlen
    go_enter Tryz.func88, Tryz.ntmps88
    go_wp2_with fail
    go_ret
    exact Ans.mkF (fun e => HL.out (by rw [e])) (Frame.refl _ _)
  have HL := Lib.hid hlen
  have hle : ys.length ≤ xs.length := by omega
  have hge : xs.length ≤ ys.length := by omega
  have hn := nat_bne_false hlen
  clear hlen
  go_enter Tryz.func88, Tryz.ntmps88
  go_wp2_with fail
  go_loopw [13] (fun i wr => ∃ k : Nat, k ≤ xs.length ∧ i = .int .i64 k ∧ Hid (Frame [] w wr ∧ ∀ j, j < k → xs[j]? = ys[j]?)) (fun i _ => xs.length - (intOf i).toNat)
  case atStart => exact ⟨0, Nat.zero_le _, rfl, Frame.refl _ _, fun j h => by omega⟩
  case round =>
    obtain ⟨k, hk, rfl, hR⟩ := hrel
    by_cases hlt : k < xs.length
    · have g1 : xs[k]? = some xs[k] := by simp [hlt]
      have hlt2 : k < ys.length := by omega
      have g2 : ys[k]? = some ys[k] := by simp [hlt2]
      obtain ⟨b1, o1, rfl, -, q1⟩ := (H1.out.frame0 hR.out.1) k _ g1
      obtain ⟨b2, o2, rfl, -, q2⟩ := (H2.out.frame0 hR.out.1) k _ g2
      have x0 := q1 0 _ rfl
      have x1 := q1 1 _ rfl
      have y0 := q2 0 _ rfl
      have y1 := q2 1 _ rfl
      simp only [Nat.add_zero] at x0 y0
      generalize xs[k] = x at *
      generalize ys[k] = y at *
      have G1 := Lib.hid g1
      have G2 := Lib.hid g2
      clear q1 q2 g1 g2
      by_cases hxy : x = y
      case pos =>
          have Q' : Hid (∀ n, (binOp .neq 67 (.agg #[.string x.name, .string x.val]) (.agg #[.string y.name, .string y.val])).run Tryz.prog (wr.drewN n) = .ok (.bool false) (wr.drewN n)) := by
            show ∀ n, _
            intro n
            have := neq_prop x y (wr.drewN n)
            rw [decide_eq_true hxy] at this; exact this
          have HX := Lib.hid hxy
          clear hxy
          go_wp2_with fail
          refine wp_region_quiet_lit (by kernel_rfl) (by kernel_rfl) ?_
          iterate 8 (go_big_quiet_step (fail))
          go_big_quiet_want
          refine quiet_bin .neq 67 67 (.tmp 19) (.tmp 23) (.agg #[.string x.name, .string x.val]) (.agg #[.string y.name, .string y.val]) (.bool false) rfl rfl rfl (fun w => guard_prop _ _ _ _ _ w) ?_ ?_
          · rintro _ ⟨n, rfl⟩; exact Q'.out n
          go_big_quiet_on
          refine wpQuiet_nil ?_
          intro _ hw'
          obtain ⟨nq, hw'⟩ := hw'
          subst hw'
          go_wp2_with fail
          go_roundw
          case rel => exact ⟨k + 1, by omega, by first | rfl | go_num, Lib.hid ⟨hR.out.1.trans1 (Frame.drewN _ _ _), get_step hR.out.2 G1.out (by rw [HX.out]; exact G2.out)⟩⟩
          case measure => first | (simp [intOf]; done) | (simp [intOf]; omega)
      case neg =>
          have Q' : Hid (∀ n, (binOp .neq 67 (.agg #[.string x.name, .string x.val]) (.agg #[.string y.name, .string y.val])).run Tryz.prog (wr.drewN n) = .ok (.bool true) (wr.drewN n)) := by
            show ∀ n, _
            intro n
            have := neq_prop x y (wr.drewN n)
            rw [decide_eq_false hxy] at this; exact this
          have HX := Lib.hid hxy
          clear hxy
          go_wp2_with fail
          refine wp_region_quiet_lit (by kernel_rfl) (by kernel_rfl) ?_
          iterate 8 (go_big_quiet_step (fail))
          go_big_quiet_want
          refine quiet_bin .neq 67 67 (.tmp 19) (.tmp 23) (.agg #[.string x.name, .string x.val]) (.agg #[.string y.name, .string y.val]) (.bool true) rfl rfl rfl (fun w => guard_prop _ _ _ _ _ w) ?_ ?_
          · rintro _ ⟨n, rfl⟩; exact Q'.out n
          go_big_quiet_on
          refine wpQuiet_nil ?_
          intro _ hw'
          obtain ⟨nq, hw'⟩ := hw'
          subst hw'
          go_wp2_with fail
          go_ret
          refine Ans.mkF (fun e => ?_) (hR.out.1.trans1 (Frame.drewN _ _ _))
          subst e
          have := G1.out.symm.trans G2.out
          simp at this
          exact HX.out this
    · obtain rfl : k = xs.length := by omega
      go_wp2_with fail
      go_ret
      exact Ans.mkT (list_eq_of_get HL.out hR.out.2) (hR.out.1.trans1 (by (repeat first | assumption | exact Frame.refl _ _ | refine Frame.trans1 ?_ (Frame.alloc _ _ _) | refine Frame.trans1 ?_ (Frame.drew _ _) | refine Frame.trans1 ?_ (Frame.drewN _ _ _))))

set_option maxHeartbeats 2000000 in
theorem equal_edge (U1 U2 : Nat → Prop) (a1 a2 : Option Addr) (c1 c2 : Nat) (xs ys : List Ed) (w : World) (h1 : RF U1 w 4 Ed.cs a1 xs) (h2 : RF U2 w 4 Ed.cs a2 ys) (l1 : xs.length ≤ 1000000) (l2 : ys.length ≤ 1000000) :
    Calls Tryz.prog 62 #[.slice a1 xs.length c1, .slice a2 ys.length c2] w (Ans (xs = ys) w) := by
  have H1 := Lib.hid h1
  have H2 := Lib.hid h2
  clear h1 h2
  by_cases hlen : xs.length = ys.length
  case neg =>
    have hn := nat_bne_true hlen
    have HL := Lib.hid hlen
    clear hlen
    go_enter Tryz.func62, Tryz.ntmps62
    go_wp2_with fail
    go_ret
    exact Ans.mkF (fun e => HL.out (by rw [e])) (Frame.refl _ _)
  have HL := Lib.hid hlen
  have hle : ys.length ≤ xs.length := by omega
  have hge : xs.length ≤ ys.length := by omega
  have hn := nat_bne_false hlen
  clear hlen
  go_enter Tryz.func62, Tryz.ntmps62
  go_wp2_with fail
  go_loopw [13] (fun i wr => ∃ k : Nat, k ≤ xs.length ∧ i = .int .i64 k ∧ Hid (Frame [] w wr ∧ ∀ j, j < k → xs[j]? = ys[j]?)) (fun i _ => xs.length - (intOf i).toNat)
  case atStart => exact ⟨0, Nat.zero_le _, rfl, Frame.refl _ _, fun j h => by omega⟩
  case round =>
    obtain ⟨k, hk, rfl, hR⟩ := hrel
    by_cases hlt : k < xs.length
    · have g1 : xs[k]? = some xs[k] := by simp [hlt]
      have hlt2 : k < ys.length := by omega
      have g2 : ys[k]? = some ys[k] := by simp [hlt2]
      obtain ⟨b1, o1, rfl, -, q1⟩ := (H1.out.frame0 hR.out.1) k _ g1
      obtain ⟨b2, o2, rfl, -, q2⟩ := (H2.out.frame0 hR.out.1) k _ g2
      have x0 := q1 0 _ rfl
      have x1 := q1 1 _ rfl
      have x2 := q1 2 _ rfl
      have x3 := q1 3 _ rfl
      have y0 := q2 0 _ rfl
      have y1 := q2 1 _ rfl
      have y2 := q2 2 _ rfl
      have y3 := q2 3 _ rfl
      simp only [Nat.add_zero] at x0 y0
      generalize xs[k] = x at *
      generalize ys[k] = y at *
      have G1 := Lib.hid g1
      have G2 := Lib.hid g2
      clear q1 q2 g1 g2
      by_cases hxy : x = y
      case pos =>
          have Q' : Hid (∀ n, (binOp .neq 44 (.agg #[.int .i64 x.tok, .int .i64 x.src, .string x.lab, .int .i64 x.dst]) (.agg #[.int .i64 y.tok, .int .i64 y.src, .string y.lab, .int .i64 y.dst])).run Tryz.prog (wr.drewN n) = .ok (.bool false) (wr.drewN n)) := by
            show ∀ n, _
            intro n
            have := neq_edge x y (wr.drewN n)
            rw [decide_eq_true hxy] at this; exact this
          have HX := Lib.hid hxy
          clear hxy
          go_wp2_with fail
          refine wp_region_quiet_lit (by kernel_rfl) (by kernel_rfl) ?_
          iterate 8 (go_big_quiet_step (fail))
          go_big_quiet_want
          refine quiet_bin .neq 44 44 (.tmp 19) (.tmp 23) (.agg #[.int .i64 x.tok, .int .i64 x.src, .string x.lab, .int .i64 x.dst]) (.agg #[.int .i64 y.tok, .int .i64 y.src, .string y.lab, .int .i64 y.dst]) (.bool false) rfl rfl rfl (fun w => guard_edge _ _ _ _ _ w) ?_ ?_
          · rintro _ ⟨n, rfl⟩; exact Q'.out n
          go_big_quiet_on
          refine wpQuiet_nil ?_
          intro _ hw'
          obtain ⟨nq, hw'⟩ := hw'
          subst hw'
          go_wp2_with fail
          go_roundw
          case rel => exact ⟨k + 1, by omega, by first | rfl | go_num, Lib.hid ⟨hR.out.1.trans1 (Frame.drewN _ _ _), get_step hR.out.2 G1.out (by rw [HX.out]; exact G2.out)⟩⟩
          case measure => first | (simp [intOf]; done) | (simp [intOf]; omega)
      case neg =>
          have Q' : Hid (∀ n, (binOp .neq 44 (.agg #[.int .i64 x.tok, .int .i64 x.src, .string x.lab, .int .i64 x.dst]) (.agg #[.int .i64 y.tok, .int .i64 y.src, .string y.lab, .int .i64 y.dst])).run Tryz.prog (wr.drewN n) = .ok (.bool true) (wr.drewN n)) := by
            show ∀ n, _
            intro n
            have := neq_edge x y (wr.drewN n)
            rw [decide_eq_false hxy] at this; exact this
          have HX := Lib.hid hxy
          clear hxy
          go_wp2_with fail
          refine wp_region_quiet_lit (by kernel_rfl) (by kernel_rfl) ?_
          iterate 8 (go_big_quiet_step (fail))
          go_big_quiet_want
          refine quiet_bin .neq 44 44 (.tmp 19) (.tmp 23) (.agg #[.int .i64 x.tok, .int .i64 x.src, .string x.lab, .int .i64 x.dst]) (.agg #[.int .i64 y.tok, .int .i64 y.src, .string y.lab, .int .i64 y.dst]) (.bool true) rfl rfl rfl (fun w => guard_edge _ _ _ _ _ w) ?_ ?_
          · rintro _ ⟨n, rfl⟩; exact Q'.out n
          go_big_quiet_on
          refine wpQuiet_nil ?_
          intro _ hw'
          obtain ⟨nq, hw'⟩ := hw'
          subst hw'
          go_wp2_with fail
          go_ret
          refine Ans.mkF (fun e => ?_) (hR.out.1.trans1 (Frame.drewN _ _ _))
          subst e
          have := G1.out.symm.trans G2.out
          simp at this
          exact HX.out this
    · obtain rfl : k = xs.length := by omega
      go_wp2_with fail
      go_ret
      exact Ans.mkT (list_eq_of_get HL.out hR.out.2) (hR.out.1.trans1 (by (repeat first | assumption | exact Frame.refl _ _ | refine Frame.trans1 ?_ (Frame.alloc _ _ _) | refine Frame.trans1 ?_ (Frame.drew _ _) | refine Frame.trans1 ?_ (Frame.drewN _ _ _))))


set_option maxHeartbeats 2000000 in
theorem sameNode_any (U1 U2 : Nat → Prop) (n m : Nv) (la pa lb pb : Option Addr) (lc pc ld pd : Nat) (w : World) (h1 : RF U1 w 1 encS la n.2.1) (h2 : RF U1 w 2 Pr.cs pa n.2.2) (h3 : RF U2 w 1 encS lb m.2.1) (h4 : RF U2 w 2 Pr.cs pb m.2.2)
    (l1 : n.2.1.length ≤ 1000000) (l2 : n.2.2.length ≤ 1000000) (l3 : m.2.1.length ≤ 1000000) (l4 : m.2.2.length ≤ 1000000) :
    Calls Tryz.prog 64 #[.agg #[.int .i64 n.1, .slice la n.2.1.length lc, .slice pa n.2.2.length pc], .agg #[.int .i64 m.1, .slice lb m.2.1.length ld, .slice pb m.2.2.length pd]] w (Ans (n = m) w) := by
  obtain ⟨i, ls, ps⟩ := n
  obtain ⟨j, ms, qs⟩ := m
  simp only at *
  have HL := Lib.hid (fun w' (f : Frame [] w w') => equal_str U1 U2 la lb lc ld ls ms w' (h1.frame0 f) (h3.frame0 f) l1 l3)
  have HP := Lib.hid (fun w' (f : Frame [] w w') => equal_prop U1 U2 pa pb pc pd ps qs w' (h2.frame0 f) (h4.frame0 f) l2 l4)
  clear h1 h2 h3 h4
  by_cases hi : i = j
  case neg =>
    have hb : (i == j) = false := by simp [hi]
    have HI := Lib.hid hi
    clear hi
    go_enter Tryz.func64, Tryz.ntmps64
    go_wp2_with fail
    go_ret
    exact Ans.mkF (fun e => HI.out (by injection e)) (by (repeat first | assumption | exact Frame.refl _ _ | refine Frame.trans1 ?_ (Frame.alloc _ _ _) | refine Frame.trans1 ?_ (Frame.drew _ _) | refine Frame.trans1 ?_ (Frame.drewN _ _ _)))
  have hb : (i == j) = true := by simp [hi]
  have HI := Lib.hid hi
  clear hi
  by_cases hl : ls = ms
  case neg =>
    have HN := Lib.hid (fun w' f => Ans.no (HL.out w' f) hl)
    have HX := Lib.hid hl
    clear hl
    go_enter Tryz.func64, Tryz.ntmps64
    go_wp2_with fail
    refine (HN.out _ (by (repeat first | assumption | exact Frame.refl _ _ | refine Frame.trans1 ?_ (Frame.alloc _ _ _) | refine Frame.trans1 ?_ (Frame.drew _ _) | refine Frame.trans1 ?_ (Frame.drewN _ _ _)))).mono ?_
    rintro e w6 ⟨rfl, f6⟩
    have F6 := Lib.hid ((show Frame [] w _ from by (repeat first | assumption | exact Frame.refl _ _ | refine Frame.trans1 ?_ (Frame.alloc _ _ _) | refine Frame.trans1 ?_ (Frame.drew _ _) | refine Frame.trans1 ?_ (Frame.drewN _ _ _))).trans1 f6)
    clear f6
    go_wp2_with fail
    go_ret
    exact Ans.mkF (fun e => HX.out (by simp at e; exact e.2.1)) F6.out
  have HN := Lib.hid (fun w' f => Ans.yes (HL.out w' f) hl)
  have HX := Lib.hid hl
  clear hl HL
  by_cases hp : ps = qs
  case neg =>
    have HM := Lib.hid (fun w' f => Ans.no (HP.out w' f) hp)
    have HY := Lib.hid hp
    clear hp
    go_enter Tryz.func64, Tryz.ntmps64
    go_wp2_with fail
    have fz : Frame [] w ((w.alloc (.cells #[.int .i64 i, .slice la ls.length lc, .slice pa ps.length pc] 41)).alloc (.cells #[.int .i64 j, .slice lb ms.length ld, .slice pb qs.length pd] 41)) := (Frame.alloc _ _ _).trans1 (Frame.alloc _ _ _)
    have bm := (Blk.new w 41 #[.int .i64 i, .slice la ls.length lc, .slice pa ps.length pc]).alloc (.cells #[.int .i64 j, .slice lb ms.length ld, .slice pb qs.length pd] 41)
    have bn := Blk.new (w.alloc (.cells #[.int .i64 i, .slice la ls.length lc, .slice pa ps.length pc] 41)) 41 #[.int .i64 j, .slice lb ms.length ld, .slice pb qs.length pd]
    simp only [World.size_alloc] at bn
    generalize (w.alloc (.cells #[.int .i64 i, .slice la ls.length lc, .slice pa ps.length pc] 41)).alloc (.cells #[.int .i64 j, .slice lb ms.length ld, .slice pb qs.length pd] 41) = wz at *
    refine (HN.out _ fz).mono ?_
    rintro e w6 ⟨rfl, f6⟩
    have F6 := Lib.hid (fz.trans1 f6)
    have x2 := (bm.frame f6 (by simp)).at 2 rfl
    have y2 := (bn.frame f6 (by simp)).at 2 rfl
    clear f6 fz bm bn
    go_wp2_with fail
    refine (HM.out _ F6.out).mono ?_
    rintro e w7 ⟨rfl, f7⟩
    have F7 := Lib.hid (F6.out.trans1 f7)
    clear f7
    go_wp2_with fail
    go_ret
    exact Ans.mkF (fun e => HY.out (by simp at e; exact e.2.2)) F7.out
  have HM := Lib.hid (fun w' f => Ans.yes (HP.out w' f) hp)
  have HY := Lib.hid hp
  clear hp
  go_enter Tryz.func64, Tryz.ntmps64
  go_wp2_with fail
  have fz : Frame [] w ((w.alloc (.cells #[.int .i64 i, .slice la ls.length lc, .slice pa ps.length pc] 41)).alloc (.cells #[.int .i64 j, .slice lb ms.length ld, .slice pb qs.length pd] 41)) := (Frame.alloc _ _ _).trans1 (Frame.alloc _ _ _)
  have bm := (Blk.new w 41 #[.int .i64 i, .slice la ls.length lc, .slice pa ps.length pc]).alloc (.cells #[.int .i64 j, .slice lb ms.length ld, .slice pb qs.length pd] 41)
  have bn := Blk.new (w.alloc (.cells #[.int .i64 i, .slice la ls.length lc, .slice pa ps.length pc] 41)) 41 #[.int .i64 j, .slice lb ms.length ld, .slice pb qs.length pd]
  simp only [World.size_alloc] at bn
  generalize (w.alloc (.cells #[.int .i64 i, .slice la ls.length lc, .slice pa ps.length pc] 41)).alloc (.cells #[.int .i64 j, .slice lb ms.length ld, .slice pb qs.length pd] 41) = wz at *
  refine (HN.out _ fz).mono ?_
  rintro e w6 ⟨rfl, f6⟩
  have F6 := Lib.hid (fz.trans1 f6)
  have x2 := (bm.frame f6 (by simp)).at 2 rfl
  have y2 := (bn.frame f6 (by simp)).at 2 rfl
  clear f6 fz bm bn
  go_wp2_with fail
  refine (HM.out _ F6.out).mono ?_
  rintro e w7 ⟨rfl, f7⟩
  have F7 := Lib.hid (F6.out.trans1 f7)
  clear f7
  go_wp2_with fail
  go_ret
  exact Ans.mkT (by rw [HI.out, HX.out, HY.out]) F7.out
end Go.Proofs.YtjcajidgaejhoaaGreat

