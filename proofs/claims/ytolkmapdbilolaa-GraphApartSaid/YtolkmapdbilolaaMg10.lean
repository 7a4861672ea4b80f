/- tansyref10.Same: are two graphs that are told one? -/
import Derived.Test.YtolkmapdbilolaaMg09
namespace Go.Proofs.Ytolkmapdbilolaa
open Go.RowKit
set_option linter.unusedSimpArgs false
set_option linter.unusedVariables false

theorem int_bne_true {a b : Int} (h : a ≠ b) : (a != b) = true := by simp [h]
theorem int_bne_false {a b : Int} (h : a = b) : (a != b) = false := by simp [h]
theorem nat_bne_true {a b : Nat} (h : a ≠ b) : ((a : Int) != (b : Int)) = true := by simp; omega
theorem nat_bne_false {a b : Nat} (h : a = b) : ((a : Int) != (b : Int)) = false := by simp [h]
theorem Gx.ext {x y : Gx} (h1 : x.ns = y.ns) (h2 : x.es = y.es) (h3 : x.next = y.next) : x = y := by cases x; cases y; simp_all
theorem list_eq_of_get {α : Type} {xs ys : List α} (hl : xs.length = ys.length) (h : ∀ j, j < xs.length → xs[j]? = ys[j]?) : xs = ys :=
  List.ext_getElem? fun j => by
    rcases Nat.lt_or_ge j xs.length with h1 | h1
    · exact h j h1
    · rw [List.getElem?_eq_none h1, List.getElem?_eq_none (by omega)]
theorem get_step {α : Type} {xs ys : List α} {k : Nat} {x : α} (h : ∀ j, j < k → xs[j]? = ys[j]?) (h1 : xs[k]? = some x) (h2 : ys[k]? = some x) : ∀ j, j < k + 1 → xs[j]? = ys[j]? := fun j hj => by
  rcases Nat.lt_or_ge j k with h3 | h3
  · exact h j h3
  · obtain rfl : j = k := by omega
    rw [h1, h2]

set_option maxHeartbeats 4000000 in
set_option maxRecDepth 100000 in
theorem rsame_any (U1 U2 : Nat → Prop) (v1 v2 : Value) (x y : Gx) (w : World) (h1 : RG U1 w v1 x) (h2 : RG U2 w v2 y) (s1 : x.Short) (s2 : y.Short) :
    Calls Try.prog 42 #[v1, v2] w (Ans (x = y) w) := by
  obtain ⟨an, nc, ae, ec, rfl, n1, e1⟩ := h1
  obtain ⟨bn, mc, be, dc, rfl, n2, e2⟩ := h2
  obtain ⟨ns, es, nx⟩ := x
  obtain ⟨ms, fs, ny⟩ := y
  obtain ⟨la1, lb1, lc1, ld1⟩ := s1
  obtain ⟨la2, lb2, lc2, ld2⟩ := s2
  simp only at *
  by_cases hnx : nx = ny
  case neg =>
    have hb := int_bne_true hnx
    have HX := Lib.hid hnx
    clear hnx n1 e1 n2 e2 lc1 ld1 lc2 ld2
    go_enter Try.func42, Try.ntmps42
    go_wp2_with fail
    go_ret
    exact Ans.mkF (fun e => HX.out (by injection e)) (by (repeat first | assumption | exact Frame.refl _ _ | refine Frame.trans1 ?_ (Frame.alloc _ _ _) | refine Frame.trans1 ?_ (Frame.drew _ _) | refine Frame.trans1 ?_ (Frame.drewN _ _ _)))
  by_cases hln : ns.length = ms.length
  case neg =>
    have hb := int_bne_false hnx
    have hc := nat_bne_true hln
    have HX := Lib.hid hln
    clear hnx hln n1 e1 n2 e2 lc1 ld1 lc2 ld2
    go_enter Try.func42, Try.ntmps42
    go_wp2_with fail
    go_ret
    exact Ans.mkF (fun e => HX.out (by injection e with e _ _; rw [e])) (by (repeat first | assumption | exact Frame.refl _ _ | refine Frame.trans1 ?_ (Frame.alloc _ _ _) | refine Frame.trans1 ?_ (Frame.drew _ _) | refine Frame.trans1 ?_ (Frame.drewN _ _ _)))
  by_cases hle : es.length = fs.length
  case neg =>
    have hb := int_bne_false hnx
    have hc := nat_bne_false hln
    have hd := nat_bne_true hle
    have HX := Lib.hid hle
    clear hnx hln hle n1 e1 n2 e2 lc1 ld1 lc2 ld2
    go_enter Try.func42, Try.ntmps42
    go_wp2_with fail
    go_ret
    exact Ans.mkF (fun e => HX.out (by injection e with _ e _; rw [e])) (by (repeat first | assumption | exact Frame.refl _ _ | refine Frame.trans1 ?_ (Frame.alloc _ _ _) | refine Frame.trans1 ?_ (Frame.drew _ _) | refine Frame.trans1 ?_ (Frame.drewN _ _ _)))
  have hb := int_bne_false hnx
  have hc := nat_bne_false hln
  have hd := nat_bne_false hle
  have HX := Lib.hid (And.intro hnx (And.intro hln hle))
  have HN1 := Lib.hid n1
  have HN2 := Lib.hid n2
  have HE1 := Lib.hid e1
  have HE2 := Lib.hid e2
  have HC := Lib.hid (And.intro lc1 (And.intro ld1 (And.intro lc2 ld2)))
  have q1 : ns.length ≤ ms.length := by omega
  have q2 : ms.length ≤ ns.length := by omega
  have q3 : es.length ≤ fs.length := by omega
  have q4 : fs.length ≤ es.length := by omega
  clear hnx hln hle n1 n2 e1 e2 lc1 ld1 lc2 ld2
  go_enter Try.func42, Try.ntmps42
  go_wp2_with fail
  have fr : Frame [] w ((w.alloc (.cells #[.slice an ns.length nc, .slice ae es.length ec, .int .i64 nx] 55)).alloc (.cells #[.slice bn ms.length mc, .slice be fs.length dc, .int .i64 ny] 55)) := (Frame.alloc _ _ _).trans1 (Frame.alloc _ _ _)
  have b0 := (Blk.new w 55 #[.slice an ns.length nc, .slice ae es.length ec, .int .i64 nx]).alloc (.cells #[.slice bn ms.length mc, .slice be fs.length dc, .int .i64 ny] 55)
  have b1 := Blk.new (w.alloc (.cells #[.slice an ns.length nc, .slice ae es.length ec, .int .i64 nx] 55)) 55 #[.slice bn ms.length mc, .slice be fs.length dc, .int .i64 ny]
  simp only [World.size_alloc] at b1
  generalize (w.alloc (.cells #[.slice an ns.length nc, .slice ae es.length ec, .int .i64 nx] 55)).alloc (.cells #[.slice bn ms.length mc, .slice be fs.length dc, .int .i64 ny] 55) = wa at *
  have B0 := Lib.hid b0
  have B1 := Lib.hid b1
  have FR := Lib.hid fr
  clear b0 b1 fr hb hc hd
  go_loopw [5] (fun i wr => ∃ k : Nat, k ≤ es.length ∧ i = .int .i64 k ∧ Hid (Frame [] wa wr ∧ ∀ j, j < k → es[j]? = fs[j]?)) (fun i _ => es.length - (intOf i).toNat)
  case atStart => exact ⟨0, Nat.zero_le _, rfl, Frame.refl _ _, fun j h => by omega⟩
  case round =>
    obtain ⟨k, hk, rfl, hR⟩ := hrel
    have z1 := (B0.out.frame hR.out.1 (by simp)).at 1 rfl
    have y1 := (B1.out.frame hR.out.1 (by simp)).at 1 rfl
    by_cases hlt : k < es.length
    · have g1 : es[k]? = some es[k] := by simp [hlt]
      have hlt2 : k < fs.length := by omega
      have g2 : fs[k]? = some fs[k] := by simp [hlt2]
      obtain ⟨p1, o1, rfl, -, c1⟩ := ((HE1.out.frame0 FR.out).frame0 hR.out.1) k _ g1
      obtain ⟨p2, o2, rfl, -, c2⟩ := ((HE2.out.frame0 FR.out).frame0 hR.out.1) k _ g2
      have x0 := c1 0 _ rfl
      have x1 := c1 1 _ rfl
      have x2 := c1 2 _ rfl
      have x3 := c1 3 _ rfl
      have t0 := c2 0 _ rfl
      have t1 := c2 1 _ rfl
      have t2 := c2 2 _ rfl
      have t3 := c2 3 _ rfl
      simp only [Nat.add_zero] at x0 t0
      generalize es[k] = a at *
      generalize fs[k] = b at *
      have G1 := Lib.hid g1
      have G2 := Lib.hid g2
      clear c1 c2 g1 g2
      have q : ∀ n, (binOp .neq 49 (.agg #[.int .i64 a.tok, .int .i64 a.src, .string a.lab, .int .i64 a.dst]) (.agg #[.int .i64 b.tok, .int .i64 b.src, .string b.lab, .int .i64 b.dst])).run Try.prog (wr.drewN n) = .ok (.bool (!decide (a = b))) (wr.drewN n) := fun n => neq_edge a b _
      have Q := Lib.hid q
      clear q
      by_cases hab : a = b
      · have HAB := Lib.hid hab
        have Q' : Hid (∀ n, (binOp .neq 49 (.agg #[.int .i64 a.tok, .int .i64 a.src, .string a.lab, .int .i64 a.dst]) (.agg #[.int .i64 b.tok, .int .i64 b.src, .string b.lab, .int .i64 b.dst])).run Try.prog (wr.drewN n) = .ok (.bool false) (wr.drewN n)) := by
          show ∀ n, _
          intro n; rw [Q.out n, decide_eq_true hab]; rfl
        clear hab Q
        go_wp2_with fail
        refine wp_region_quiet_lit (by kernel_rfl) (by kernel_rfl) ?_
        iterate 10 (go_big_quiet_step (fail))
        go_big_quiet_want
        refine quiet_bin .neq 49 49 (.tmp 44) (.tmp 49) (.agg #[.int .i64 a.tok, .int .i64 a.src, .string a.lab, .int .i64 a.dst]) (.agg #[.int .i64 b.tok, .int .i64 b.src, .string b.lab, .int .i64 b.dst]) (.bool false) rfl rfl rfl (fun w => guard_edge _ _ _ _ _ w) ?_ ?_
        · rintro _ ⟨n, rfl⟩; exact Q'.out n
        go_big_quiet_on
        refine wpQuiet_nil ?_
        intro _ hw'
        obtain ⟨nq, hw'⟩ := hw'
        subst hw'
        go_wp2_with fail
        go_roundw
        case rel => exact ⟨k + 1, by omega, by first | rfl | go_num, Lib.hid ⟨hR.out.1.trans1 (Frame.drewN _ _ _), get_step hR.out.2 G1.out (by rw [HAB.out]; exact G2.out)⟩⟩
        case measure => first | (simp [intOf]; done) | (simp [intOf]; omega)
      · have HAB := Lib.hid hab
        have Q' : Hid (∀ n, (binOp .neq 49 (.agg #[.int .i64 a.tok, .int .i64 a.src, .string a.lab, .int .i64 a.dst]) (.agg #[.int .i64 b.tok, .int .i64 b.src, .string b.lab, .int .i64 b.dst])).run Try.prog (wr.drewN n) = .ok (.bool true) (wr.drewN n)) := by
          show ∀ n, _
          intro n; rw [Q.out n, decide_eq_false hab]; rfl
        clear hab Q
        go_wp2_with fail
        refine wp_region_quiet_lit (by kernel_rfl) (by kernel_rfl) ?_
        iterate 10 (go_big_quiet_step (fail))
        go_big_quiet_want
        refine quiet_bin .neq 49 49 (.tmp 44) (.tmp 49) (.agg #[.int .i64 a.tok, .int .i64 a.src, .string a.lab, .int .i64 a.dst]) (.agg #[.int .i64 b.tok, .int .i64 b.src, .string b.lab, .int .i64 b.dst]) (.bool true) rfl rfl rfl (fun w => guard_edge _ _ _ _ _ w) ?_ ?_
        · rintro _ ⟨n, rfl⟩; exact Q'.out n
        go_big_quiet_on
        refine wpQuiet_nil ?_
        intro _ hw'
        obtain ⟨nq, hw'⟩ := hw'
        subst hw'
        go_wp2_with fail
        go_ret
        refine Ans.mkF (fun e => ?_) ((FR.out.trans1 hR.out.1).trans1 (Frame.drewN _ _ _))
        injection e with _ e _
        rw [e] at G1
        have := G1.out.symm.trans G2.out
        simp at this
        exact HAB.out this
    · obtain rfl : k = es.length := by omega
      have HES := Lib.hid (list_eq_of_get HX.out.2.2 hR.out.2)
      have HF := Lib.hid hR.out.1
      clear hR
      rename World => w5
      go_wp2_with fail
      go_loopw [6] (fun i wr => ∃ k : Nat, k ≤ ns.length ∧ i = .int .i64 k ∧ Hid (Frame [] wa wr ∧ ∀ j, j < k → ns[j]? = ms[j]?)) (fun i _ => ns.length - (intOf i).toNat)
      case atStart => exact ⟨0, Nat.zero_le _, rfl, HF.out, fun j h => by omega⟩
      case round =>
        obtain ⟨k, hk, rfl, hR⟩ := hrel
        have z0 := (B0.out.frame hR.out.1 (by simp)).at 0 rfl
        have y0 := (B1.out.frame hR.out.1 (by simp)).at 0 rfl
        by_cases hlt : k < ns.length
        · have g1 : ns[k]? = some ns[k] := by simp [hlt]
          have hlt2 : k < ms.length := by omega
          have g2 : ms[k]? = some ms[k] := by simp [hlt2]
          have hc1 := HC.out.1 _ (List.getElem_mem hlt)
          have hc2 := HC.out.2.1 _ (List.getElem_mem hlt)
          have hc3 := HC.out.2.2.1 _ (List.getElem_mem hlt2)
          have hc4 := HC.out.2.2.2 _ (List.getElem_mem hlt2)
          obtain ⟨p1, o1, la, lc, pa, pc, rfl, -, x0, x1, x2, rl1, rp1⟩ := ((HN1.out.frame0 FR.out).frame0 hR.out.1) k _ g1
          obtain ⟨p2, o2, lb, ld, pb, pd, rfl, -, t0, t1, t2, rl2, rp2⟩ := ((HN2.out.frame0 FR.out).frame0 hR.out.1) k _ g2
          generalize ns[k] = n at *
          generalize ms[k] = m at *
          obtain ⟨i1, l1, u1⟩ := n
          obtain ⟨i2, l2, u2⟩ := m
          have z9 := World.block_lt_of_cell? wr _ z0
          have y9 := World.block_lt_of_cell? wr _ y0
          have x9 := World.block_lt_of_cell? wr _ x0
          have t9 := World.block_lt_of_cell? wr _ t0
          simp only at z9 y9 x9 t9
          simp only at x0 x1 x2 rl1 rp1 t0 t1 t2 rl2 rp2 hc1 hc2 hc3 hc4
          have G1 := Lib.hid g1
          have G2 := Lib.hid g2
          have RP1 := Lib.hid rp1
          have RP2 := Lib.hid rp2
          have RL1 := Lib.hid rl1
          have RL2 := Lib.hid rl2
          clear g1 g2 rp1 rp2 rl1 rl2
          have hdiff : ∀ e : (⟨ns, es, nx⟩ : Gx) = ⟨ms, fs, ny⟩, (i1, l1, u1) = (i2, l2, u2) := fun e => by
            injection e with e _ _
            have h1 := G1.out
            rw [e] at h1
            have := h1.symm.trans G2.out
            simpa using this
          have HD := Lib.hid hdiff
          clear hdiff
          by_cases hi : i1 = i2
          case neg =>
            have hb := int_bne_true hi
            have HI := Lib.hid hi
            clear hi
            go_wp2_with fail
            go_ret
            exact Ans.mkF (fun e => HI.out (by have := HD.out e; simp at this; exact this.1)) (FR.out.trans1 (hR.out.1.trans1 (by (repeat first | assumption | exact Frame.refl _ _ | refine Frame.trans1 ?_ (Frame.alloc _ _ _) | refine Frame.trans1 ?_ (Frame.drew _ _) | refine Frame.trans1 ?_ (Frame.drewN _ _ _)))))
          have hb := int_bne_false hi
          have HI := Lib.hid hi
          clear hi
          have HT : Hid (∀ w', Frame [] wr w' → Calls Try.prog 90 #[.slice la l1.length lc, .slice lb l2.length ld] w' (Ans (l1 = l2) w')) := by
            show ∀ w', _
            exact fun w' f => texts_any U1 U2 la lb lc ld l1 l2 w' (RL1.out.frame0 f) (RL2.out.frame0 f) hc1 hc3
          go_wp2_with fail
          have fz : Frame [] wr ((wr.alloc (.cells #[.int .i64 i1, .slice la l1.length lc, .slice pa u1.length pc] 86)).alloc (.cells #[.int .i64 i2, .slice lb l2.length ld, .slice pb u2.length pd] 86)) := (Frame.alloc _ _ _).trans1 (Frame.alloc _ _ _)
          have bm := (Blk.new wr 86 #[.int .i64 i1, .slice la l1.length lc, .slice pa u1.length pc]).alloc (.cells #[.int .i64 i2, .slice lb l2.length ld, .slice pb u2.length pd] 86)
          have bn := Blk.new (wr.alloc (.cells #[.int .i64 i1, .slice la l1.length lc, .slice pa u1.length pc] 86)) 86 #[.int .i64 i2, .slice lb l2.length ld, .slice pb u2.length pd]
          simp only [World.size_alloc] at bn
          generalize (wr.alloc (.cells #[.int .i64 i1, .slice la l1.length lc, .slice pa u1.length pc] 86)).alloc (.cells #[.int .i64 i2, .slice lb l2.length ld, .slice pb u2.length pd] 86) = wz at *
          have BM := Lib.hid bm
          have BN := Lib.hid bn
          have FZ := Lib.hid fz
          clear bm bn fz x0 x1 x2 t0 t1 t2 hb z9 y9 x9 t9 z0 y0
          by_cases hl : l1 = l2
          case neg =>
            have HI := Lib.hid hl
            refine (Ans.no (HT.out _ FZ.out) hl).mono ?_
            clear hl HT
            rintro e w6 ⟨rfl, f6⟩
            have F6 := Lib.hid f6
            clear f6
            go_wp2_with fail
            go_ret
            exact Ans.mkF (fun e => HI.out (by have := HD.out e; simp at this; exact this.2.1)) ((FR.out.trans1 hR.out.1).trans1 (FZ.out.trans1 F6.out))
          refine (Ans.yes (HT.out _ FZ.out) hl).mono ?_
          have HL := Lib.hid hl
          clear hl HT
          rintro e w6 ⟨rfl, f6⟩
          have x0 := (BM.out.frame f6 (by simp)).at 2 rfl
          have t0 := (BN.out.frame f6 (by simp)).at 2 rfl
          have F6 := Lib.hid f6
          clear f6
          by_cases hp : u1.length = u2.length
          case neg =>
            have hb := nat_bne_true hp
            have HI := Lib.hid hp
            clear hp
            go_wp2_with fail
            go_ret
            exact Ans.mkF (fun e => HI.out (by have := HD.out e; simp at this; rw [this.2.2])) ((FR.out.trans1 hR.out.1).trans1 (FZ.out.trans1 F6.out))
          have hb := nat_bne_false hp
          have hp1 : u1.length ≤ u2.length := by omega
          have HP := Lib.hid hp
          clear hp
          go_wp2_with fail
          clear hb x0 t0
          go_loopw [9] (fun i wq => ∃ k3 : Nat, k3 ≤ u1.length ∧ i = .int .i64 k3 ∧ Hid (Frame [] w6 wq ∧ ∀ j, j < k3 → u1[j]? = u2[j]?)) (fun i _ => u1.length - (intOf i).toNat)
          case atStart => exact ⟨0, Nat.zero_le _, rfl, Frame.refl _ _, fun j h => by omega⟩
          case round =>
            obtain ⟨k3, hk3, rfl, hQ⟩ := hrel
            rename World => wq
            have x0 := (BM.out.frame (F6.out.trans1 hQ.out.1) (by simp)).at 2 rfl
            have t0 := (BN.out.frame (F6.out.trans1 hQ.out.1) (by simp)).at 2 rfl
            by_cases hlt3 : k3 < u1.length
            · have g1 : u1[k3]? = some u1[k3] := by simp [hlt3]
              have hlt4 : k3 < u2.length := by omega
              have g2 : u2[k3]? = some u2[k3] := by simp [hlt4]
              have fq := FZ.out.trans1 (F6.out.trans1 hQ.out.1)
              obtain ⟨p3, o3, rfl, -, c1⟩ := (RP1.out.frame0 fq) k3 _ g1
              obtain ⟨p4, o4, rfl, -, c2⟩ := (RP2.out.frame0 fq) k3 _ g2
              have r0 := c1 0 _ rfl
              have r1 := c1 1 _ rfl
              have s0 := c2 0 _ rfl
              have s1 := c2 1 _ rfl
              simp only [Nat.add_zero] at r0 s0
              generalize u1[k3] = a at *
              generalize u2[k3] = b at *
              have GA := Lib.hid g1
              have GB := Lib.hid g2
              clear c1 c2 g1 g2 fq
              by_cases hab : a = b
              · have Q' : Hid (∀ n, (binOp .neq 129 (.agg #[.string a.name, .string a.val]) (.agg #[.string b.name, .string b.val])).run Try.prog (wq.drewN n) = .ok (.bool false) (wq.drewN n)) := by
                  show ∀ n, _
                  intro n
                  have := neq_prop a b (wq.drewN n)
                  rw [decide_eq_true hab] at this; exact this
                have HAB := Lib.hid hab
                clear hab
                go_wp2_with fail
                refine wp_region_quiet_lit (by kernel_rfl) (by kernel_rfl) ?_
                iterate 10 (go_big_quiet_step (fail))
                go_big_quiet_want
                refine quiet_bin .neq 129 129 (.tmp 101) (.tmp 106) (.agg #[.string a.name, .string a.val]) (.agg #[.string b.name, .string b.val]) (.bool false) rfl rfl rfl (fun w => guard_prop _ _ _ _ _ w) ?_ ?_
                · rintro _ ⟨n, rfl⟩; exact Q'.out n
                go_big_quiet_on
                refine wpQuiet_nil ?_
                intro _ hw'
                obtain ⟨nq, hw'⟩ := hw'
                subst hw'
                go_wp2_with fail
                go_roundw
                case rel => exact ⟨k3 + 1, by omega, by first | rfl | go_num, Lib.hid ⟨hQ.out.1.trans1 (Frame.drewN _ _ _), get_step hQ.out.2 GA.out (by rw [HAB.out]; exact GB.out)⟩⟩
                case measure => first | (simp [intOf]; done) | (simp [intOf]; omega)
              · have Q' : Hid (∀ n, (binOp .neq 129 (.agg #[.string a.name, .string a.val]) (.agg #[.string b.name, .string b.val])).run Try.prog (wq.drewN n) = .ok (.bool true) (wq.drewN n)) := by
                  show ∀ n, _
                  intro n
                  have := neq_prop a b (wq.drewN n)
                  rw [decide_eq_false hab] at this; exact this
                have HAB := Lib.hid hab
                clear hab
                go_wp2_with fail
                refine wp_region_quiet_lit (by kernel_rfl) (by kernel_rfl) ?_
                iterate 10 (go_big_quiet_step (fail))
                go_big_quiet_want
                refine quiet_bin .neq 129 129 (.tmp 101) (.tmp 106) (.agg #[.string a.name, .string a.val]) (.agg #[.string b.name, .string b.val]) (.bool true) rfl rfl rfl (fun w => guard_prop _ _ _ _ _ w) ?_ ?_
                · rintro _ ⟨n, rfl⟩; exact Q'.out n
                go_big_quiet_on
                refine wpQuiet_nil ?_
                intro _ hw'
                obtain ⟨nq, hw'⟩ := hw'
                subst hw'
                go_wp2_with fail
                go_ret
                refine Ans.mkF (fun e => ?_) ((FR.out.trans1 hR.out.1).trans1 ((FZ.out.trans1 (F6.out.trans1 hQ.out.1)).trans1 (Frame.drewN _ _ _)))
                have := HD.out e
                simp at this
                have h1 := GA.out
                rw [this.2.2] at h1
                have := h1.symm.trans GB.out
                simp at this
                exact HAB.out this
            · obtain rfl : k3 = u1.length := by omega
              have HPS := Lib.hid (list_eq_of_get HP.out hQ.out.2)
              go_wp2_with fail
              go_roundw
              case rel => exact ⟨k + 1, by omega, by first | rfl | go_num, Lib.hid ⟨(hR.out.1.trans1 (FZ.out.trans1 (F6.out.trans1 hQ.out.1))).trans1 (by (repeat first | assumption | exact Frame.refl _ _ | refine Frame.trans1 ?_ (Frame.alloc _ _ _) | refine Frame.trans1 ?_ (Frame.drew _ _) | refine Frame.trans1 ?_ (Frame.drewN _ _ _))), get_step hR.out.2 G1.out (by rw [HI.out, HL.out, HPS.out]; exact G2.out)⟩⟩
              case measure => first | (simp [intOf]; done) | (simp [intOf]; omega)
        · obtain rfl : k = ns.length := by omega
          have HNS := Lib.hid (list_eq_of_get HX.out.2.1 hR.out.2)
          go_wp2_with fail
          go_ret
          exact Ans.mkT (Gx.ext HNS.out HES.out HX.out.1) (FR.out.trans1 (hR.out.1.trans1 (by (repeat first | assumption | exact Frame.refl _ _ | refine Frame.trans1 ?_ (Frame.alloc _ _ _) | refine Frame.trans1 ?_ (Frame.drew _ _) | refine Frame.trans1 ?_ (Frame.drewN _ _ _)))))
end Go.Proofs.Ytolkmapdbilolaa

