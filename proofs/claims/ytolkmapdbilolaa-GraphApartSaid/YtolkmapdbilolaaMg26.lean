/- The reference's change, In. slices.Equal, EqualFunc; graph.Same: are two graphs that are told one? (printed by gen_equal.py) -/
import Derived.Test.YtolkmapdbilolaaMg25
import Derived.Test.YtolkmapdbilolaaMg10
import Derived.Test.YtolkmapdbilolaaMg06
namespace Go.Proofs.Ytolkmapdbilolaa
open Go.RowKit
set_option linter.unusedSimpArgs false
set_option linter.unusedVariables false

/-- What In ends in. -/
def InEnd (P : Prop) (w : World) (e : Ending) (w' : World) : Prop := ∃ i : Int, e = .returned (.int .i64 i) ∧ (0 ≤ i ↔ P) ∧ Frame [] w w'
set_option maxHeartbeats 1000000 in
theorem in_any (U : Nat → Prop) (a : Option Addr) (c : Nat) (xs : List ByteArray) (s : ByteArray) (w : World) (h : RF U w 1 encS a xs) (hl : xs.length ≤ 1000000) :
    Calls Try.prog 99 #[.slice a xs.length c, .string s] w (InEnd (s ∈ xs) w) := by
  have H := Lib.hid h
  clear h
  go_enter Try.func99, Try.ntmps99
  go_wp2_with fail
  go_loopw [5] (fun i wr => ∃ k : Nat, k ≤ xs.length ∧ i = .int .i64 k ∧ Hid (Frame [] w wr ∧ ∀ j x, j < k → xs[j]? = some x → x ≠ s)) (fun i _ => xs.length - (intOf i).toNat)
  case atStart => exact ⟨0, Nat.zero_le _, rfl, Frame.refl _ _, fun j _ h => by omega⟩
  case round =>
    obtain ⟨k, hk, rfl, hR⟩ := hrel
    by_cases hlt : k < xs.length
    · have g1 : xs[k]? = some xs[k] := by simp [hlt]
      obtain ⟨b, off, rfl, -, q1⟩ := (H.out.frame0 hR.out.1) k _ g1
      have x0 := q1 0 _ rfl
      simp only [Nat.add_zero, Nat.mul_one] at x0
      generalize xs[k] = x at *
      have G1 := Lib.hid g1
      clear g1 q1
      by_cases hxs : x = s
      · have hb := beq_toList_true hxs
        have HX := Lib.hid hxs
        clear hxs
        go_wp2_with fail
        go_ret
        exact ⟨k, rfl, ⟨fun _ => HX.out ▸ List.mem_of_getElem? G1.out, fun _ => by omega⟩, hR.out.1.trans1 (by (repeat first | assumption | exact Frame.refl _ _ | refine Frame.trans1 ?_ (Frame.alloc _ _ _) | refine Frame.trans1 ?_ (Frame.drew _ _) | refine Frame.trans1 ?_ (Frame.drewN _ _ _)))⟩
      · have hb := beq_toList_false hxs
        have HX := Lib.hid hxs
        clear hxs
        go_wp2_with fail
        go_roundw
        case rel => exact ⟨k + 1, by omega, by first | rfl | go_num, Lib.hid ⟨hR.out.1.trans1 (by (repeat first | assumption | exact Frame.refl _ _ | refine Frame.trans1 ?_ (Frame.alloc _ _ _) | refine Frame.trans1 ?_ (Frame.drew _ _) | refine Frame.trans1 ?_ (Frame.drewN _ _ _))), fun j z hj hz => by
          rcases Nat.lt_or_ge j k with h | h
          · exact hR.out.2 j z h hz
          · obtain rfl : j = k := by omega
            have := G1.out.symm.trans hz
            simp at this
            subst this
            exact HX.out⟩⟩
        case measure => first | (simp [intOf]; done) | (simp [intOf]; omega)
    · obtain rfl : k = xs.length := by omega
      go_wp2_with fail
      go_ret
      exact ⟨-1, rfl, ⟨fun h => by omega, fun h => by
        obtain ⟨j, hj, e⟩ := List.getElem_of_mem h
        exact absurd e (hR.out.2 j xs[j] hj (by simp))⟩, hR.out.1.trans1 (by (repeat first | assumption | exact Frame.refl _ _ | refine Frame.trans1 ?_ (Frame.alloc _ _ _) | refine Frame.trans1 ?_ (Frame.drew _ _) | refine Frame.trans1 ?_ (Frame.drewN _ _ _)))⟩
theorem InEnd.yes {P : Prop} {w : World} {f : Nat} {args : Array Value} (h : Calls Try.prog f args w (InEnd P w)) (hp : P) : Calls Try.prog f args w fun e w' => ∃ i : Nat, e = .returned (.int .i64 i) ∧ Frame [] w w' :=
  h.mono fun e w' ⟨i, he, hi, f⟩ => by
    have := hi.2 hp
    exact ⟨i.toNat, by rw [he]; congr 2; omega, f⟩
theorem InEnd.no {P : Prop} {w : World} {f : Nat} {args : Array Value} (h : Calls Try.prog f args w (InEnd P w)) (hp : ¬ P) : Calls Try.prog f args w fun e w' => ∃ i : Int, e = .returned (.int .i64 i) ∧ i < 0 ∧ Frame [] w w' :=
  h.mono fun e w' ⟨i, he, hi, f⟩ => ⟨i, he, by rcases Int.lt_or_le i 0 with h | h; exact h; exact absurd (hi.1 h) hp, f⟩

theorem Sl.ne {α : Type} {w : World} {e sz n c : Nat} {enc : α → List Value} {a : Option Addr} {xs : List α} {G : List Nat} (h : Sl w e sz enc (.slice a n c) xs G) (h0 : 0 < xs.length) : ∃ b, a = some ⟨b, 0, none⟩ ∧ G = [b] ∧ RowAt w b e sz n c (xs.flatMap enc) := by
  rcases h with ⟨_, h, _⟩ | ⟨b, cap, h1, h2, h3⟩
  · subst h; simp at h0
  · injection h1 with q1 q2 q3
    subst q1 q2 q3
    exact ⟨b, rfl, h2, h3⟩
theorem set3_list (PA PB : List Value) (x0 x1 x2 y0 y1 y2 : Value) (m : Nat) (hm : PA.length = m * 3) :
    ((((PA ++ x0 :: x1 :: x2 :: PB).set (m * 3) y0).set (m * 3 + 1) y1).set (m * 3 + 2) y2) = PA ++ y0 :: y1 :: y2 :: PB := by
  have e4 : m * 3 = PA.length + 0 := by omega
  rw [e4]
  simp [List.set_append]
theorem set_flat {zs : List Zn} {k : Nat} (hk : k < zs.length) (z : Zn) : ((((zs.flatMap Zn.enc).set (k * 3) (.int .i64 z.nd.id)).set (k * 3 + 1) (.slice z.nd.la z.nd.ln z.nd.lc)).set (k * 3 + 2) (.slice z.nd.pa z.nd.pn z.nd.pc)) = (zs.set k z).flatMap Zn.enc := by
  have e : zs = zs.take k ++ zs[k] :: zs.drop (k + 1) := by rw [List.getElem_cons_drop, List.take_append_drop]
  have e2 : zs.set k z = zs.take k ++ z :: zs.drop (k + 1) := by
    rw [List.set_eq_take_append_cons_drop, if_pos hk]
  rw [e2]
  have hl : ((zs.take k).flatMap Zn.enc).length = k * 3 := by rw [flat_len zn_len]; simp; omega
  have := set3_list ((zs.take k).flatMap Zn.enc) ((zs.drop (k + 1)).flatMap Zn.enc) (.int .i64 zs[k].nd.id) (.slice zs[k].nd.la zs[k].nd.ln zs[k].nd.lc) (.slice zs[k].nd.pa zs[k].nd.pn zs[k].nd.pc) (.int .i64 z.nd.id) (.slice z.nd.la z.nd.ln z.nd.lc) (.slice z.nd.pa z.nd.pn z.nd.pc) k hl
  have e3 : zs.flatMap Zn.enc = (zs.take k).flatMap Zn.enc ++ .int .i64 zs[k].nd.id :: .slice zs[k].nd.la zs[k].nd.ln zs[k].nd.lc :: .slice zs[k].nd.pa zs[k].nd.pn zs[k].nd.pc :: (zs.drop (k + 1)).flatMap Zn.enc := by
    conv => lhs; rw [e]
    simp only [List.flatMap_append, List.flatMap_cons, Zn.enc, Nd.cs, List.cons_append, List.nil_append]
  rw [e3, this]
  simp only [List.flatMap_append, List.flatMap_cons, Zn.enc, Nd.cs, List.cons_append, List.nil_append]

set_option maxHeartbeats 4000000 in
set_option maxRecDepth 100000 in
theorem rg_change {w : World} {rb : Nat} {D : List Nat} {zs : List Zn} {es : List Ed} {next : Int} (h : RGz w rb D zs es next) (hlen : zs.length ≤ 1000000) (k : Nat) (hk : k < zs.length) (z : Zn) (hz : z.ok (· ∈ D) w) :
    Calls Try.prog 135 #[.pointer (some ⟨rb, 0, none⟩), .int .i64 k, .agg #[.int .i64 z.nd.id, .slice z.nd.la z.nd.ln z.nd.lc, .slice z.nd.pa z.nd.pn z.nd.pc]] w fun e w' => e = .returned (.tuple #[]) ∧ RGEnd w rb D ((zs.set k z).map Zn.v) es next w' := by
  obtain ⟨m1, m2, m3, an, nc, ae, ec, hb, m5, m6, m7⟩ := id h
  have HZ := Lib.hid h
  have HB := Lib.hid hb
  have HM := Lib.hid (And.intro m3 (And.intro m5 hz))
  clear m1 m2 m3 m5 m6 m7 h hz
  have blt := hb.lt
  have c0 := hb.at 0 rfl
  have hlz := hb.lt
  clear hb
  have hzk : zs[k]? = some (zs[k]'hk) := by simp [hk]
  generalize zs[k]'hk = zk at hzk
  have CA : ∀ o o', ((w.alloc o).alloc o').cell? ⟨rb, 0, none⟩ = some (.slice an zs.length nc) := fun o o' => ((HB.out.alloc o).alloc o').at 0 rfl
  have HRF := Lib.hid (fun o o' => (HM.out.2.1.frame0 (Frame.alloc [] w o)).frame0 (Frame.alloc [] (w.alloc o) o'))
  go_enter Try.func135, Try.ntmps135
  go_wp2_with (at_builtin; refine wpList_append_rf rfl (.tmp 7) (.tmp 12) 52 rfl 86 3 56 _ Zn.enc Try.underlying52 infoNode rfl (by omega) (.slice (some ⟨w.heap.size + 1, 0, none⟩) 0 0) [] 0 rfl [w.heap.size + 1] rfl (by have := sl_empty (w.alloc (.cells #[.int .i64 z.nd.id, .slice z.nd.la z.nd.ln z.nd.lc, .slice z.nd.pa z.nd.pn z.nd.pc] 86)) 86 3 Zn.enc; simpa only [World.size_alloc] using this) (· ∈ D) _ _ _ zs rfl (HRF.out _ _) rfl zn_len zn_one zs.length (by omega) (by omega) (by omega) ?_; intro a5 cap5 w5 G5 sl5 f5 hG5; have hg5 : ∀ x ∈ G5, w.heap.size + 1 ≤ x := (fun x hx => by rcases hG5 x hx with h | h <;> simp at h <;> omega); have S5 := Lib.hid sl5; have f5w := (((Frame.alloc [] w _).trans1 (Frame.alloc [] _ _)).trans f5 (fun x hx => by simp at hx; subst hx; right; omega)); have F5 := Lib.hid f5w; have B5 := Lib.hid hg5; have bn := (((Blk.new w 86 #[.int .i64 z.nd.id, .slice z.nd.la z.nd.ln z.nd.lc, .slice z.nd.pa z.nd.pn z.nd.pc]).alloc (.cells #[] 86)).frame f5 (by simp)); have n0 := bn.at 0 rfl; have n1 := bn.at 1 rfl; have n2 := bn.at 2 rfl; obtain ⟨b5, rfl, rfl, row5⟩ := Sl.ne sl5 (by simp; omega); have r0 := row5.frozen (k * 3); have r1 := row5.frozen (k * 3 + 1); have r2 := row5.frozen (k * 3 + 2); have row5 : RowAt w5 b5 86 3 zs.length cap5 (zs.flatMap Zn.enc) := (by simpa using row5); have s0 := row5.cell (flat_get zn_len hzk (j := 0) rfl); have s1 := row5.cell (flat_get zn_len hzk (j := 1) rfl); have s2 := row5.cell (flat_get zn_len hzk (j := 2) rfl); simp only [Nat.add_zero] at s0; have ROW := Lib.hid row5; have hbr := HB.out.frame f5w (by simp); have HBR := Lib.hid hbr; have i0 := hbr.at 0 rfl; have i1 := hbr.frozen 0; have hne : rb ≠ b5 := (by have := hg5 b5 (by simp); have := blt; omega); have HNE := Lib.hid hne; have j0 : ∀ u v t, (((w5.setCell ⟨b5, k * 3, none⟩ u).setCell ⟨b5, k * 3 + 1, none⟩ v).setCell ⟨b5, k * 3 + 2, none⟩ t).cell? ⟨rb, 0, none⟩ = some (.slice an zs.length nc) := (fun u v t => (((hbr.set_ne u hne).set_ne v hne).set_ne t hne).at 0 rfl); have j1 : ∀ u v t, (((w5.setCell ⟨b5, k * 3, none⟩ u).setCell ⟨b5, k * 3 + 1, none⟩ v).setCell ⟨b5, k * 3 + 2, none⟩ t).frozen? ⟨rb, 0, none⟩ = false := (fun u v t => (((hbr.set_ne u hne).set_ne v hne).set_ne t hne).frozen 0); clear hne sl5 f5 hG5 f5w hg5 bn row5 hbr)
  refine bodyPost_end (results_none rfl _ _ _) rfl ?_
  have fs : ∀ u v t, Frame [b5] w5 (((w5.setCell ⟨b5, k * 3, none⟩ u).setCell ⟨b5, k * 3 + 1, none⟩ v).setCell ⟨b5, k * 3 + 2, none⟩ t) := fun u v t => ((Frame.setCell _ ⟨b5, k * 3, none⟩ _ (by simp)).trans1 (Frame.setCell _ ⟨b5, k * 3 + 1, none⟩ _ (by simp))).trans1 (Frame.setCell _ ⟨b5, k * 3 + 2, none⟩ _ (by simp))
  have hw5 := B5.out b5 (by simp)
  have fw := F5.out.trans (fs (.int .i64 z.nd.id) (.slice z.nd.la z.nd.ln z.nd.lc) (.slice z.nd.pa z.nd.pn z.nd.pc)) (fun x hx => by simp at hx; subst hx; right; omega)
  have row := ((ROW.out.set (k * 3) (.int .i64 z.nd.id)).set (k * 3 + 1) (.slice z.nd.la z.nd.ln z.nd.lc)).set (k * 3 + 2) (.slice z.nd.pa z.nd.pn z.nd.pc)
  rw [set_flat hk z] at row
  have hsl : Sl (((w5.setCell ⟨b5, k * 3, none⟩ (.int .i64 z.nd.id)).setCell ⟨b5, k * 3 + 1, none⟩ (.slice z.nd.la z.nd.ln z.nd.lc)).setCell ⟨b5, k * 3 + 2, none⟩ (.slice z.nd.pa z.nd.pn z.nd.pc)) 86 3 Zn.enc (.slice (some ⟨b5, 0, none⟩) zs.length cap5) (zs.set k z) [b5] := .inr ⟨b5, cap5, by rw [List.length_set], rfl, by rw [List.length_set]; exact row⟩
  have hE := RGz.setNodes HZ.out fw hsl (by simp) (fun x hx => by simp at hx; subst hx; omega) (by
    intro y hy
    rcases List.mem_or_eq_of_mem_set hy with h | h
    · exact Zn.ok_mono (Zn.ok_frame (HM.out.1 y h) fw (by simp)) (fun b hb => .inl hb)
    · subst h; exact Zn.ok_mono (Zn.ok_frame HM.out.2.2 fw (by simp)) (fun b hb => .inl hb)) blt
  exact ⟨rfl, by rw [List.map_set] at hE; exact hE⟩
end Go.Proofs.Ytolkmapdbilolaa

namespace Go.Proofs.Ytolkmapdbilolaa
open Go.RowKit
set_option linter.unusedSimpArgs false
set_option linter.unusedVariables false

set_option maxHeartbeats 2000000 in
theorem equal_str (U1 U2 : Nat → Prop) (a1 a2 : Option Addr) (c1 c2 : Nat) (xs ys : List ByteArray) (w : World) (h1 : RF U1 w 1 encS a1 xs) (h2 : RF U2 w 1 encS a2 ys) (l1 : xs.length ≤ 1000000) (l2 : ys.length ≤ 1000000) :
    Calls Try.prog 132 #[.slice a1 xs.length c1, .slice a2 ys.length c2] w (Ans (xs = ys) w) := by
  have H1 := Lib.hid h1
  have H2 := Lib.hid h2
  clear h1 h2
  by_cases hlen : xs.length = ys.length
  case neg =>
    have hn := nat_bne_true hlen
    have HL := Lib.hid hlen
    clear hlen
    go_enter Try.func132, Try.ntmps132
    go_wp2_with fail
    go_ret
    exact Ans.mkF (fun e => HL.out (by rw [e])) (Frame.refl _ _)
  have HL := Lib.hid hlen
  have hle : ys.length ≤ xs.length := by omega
  have hge : xs.length ≤ ys.length := by omega
  have hn := nat_bne_false hlen
  clear hlen
  go_enter Try.func132, Try.ntmps132
  go_wp2_with fail
  go_loopw [13] (fun i wr => ∃ k : Nat, k ≤ xs.length ∧ i = .int .i64 k ∧ Hid (Frame [] w wr ∧ ∀ j, j < k → xs[j]? = ys[j]?)) (fun i _ => xs.length - (intOf i).toNat)
  case atStart => exact ⟨0, Nat.zero_le _, rfl, Frame.refl _ _, fun j h => by omega⟩
  case round =>
    obtain ⟨k, hk, rfl, hR⟩ := hrel
    by_cases hlt : k < xs.length
    · have g1 : xs[k]? = some xs[k] := by simp [hlt]
      have hlt2 : k < ys.length := by omega
      have g2 : ys[k]? = some ys[k] := by simp [hlt2]
      obtain ⟨b1, o1, rfl, -, q1⟩ := (H1.out.frame0 hR.out.1) k _ g1
      obtain ⟨b2, o2, rfl, -, q2⟩ := (H2.out.frame0 hR.out.1) k _ g2
      have x0 := q1 0 _ rfl
      have y0 := q2 0 _ rfl
      simp only [Nat.add_zero, Nat.mul_one] at x0 y0
      generalize xs[k] = x at *
      generalize ys[k] = y at *
      have G1 := Lib.hid g1
      have G2 := Lib.hid g2
      clear q1 q2 g1 g2
      by_cases hxy : x = y
      case pos =>
          have hb := beq_toList_true hxy
          have HX := Lib.hid hxy
          clear hxy
          go_wp2_with fail
          go_quiet (fail)
          go_wp2_with fail
          go_roundw
          case rel => exact ⟨k + 1, by omega, by first | rfl | go_num, Lib.hid ⟨hR.out.1.trans1 (Frame.drewN _ _ _), get_step hR.out.2 G1.out (by rw [HX.out]; exact G2.out)⟩⟩
          case measure => first | (simp [intOf]; done) | (simp [intOf]; omega)
      case neg =>
          have hb := beq_toList_false hxy
          have HX := Lib.hid hxy
          clear hxy
          go_wp2_with fail
          go_quiet (fail)
          go_wp2_with fail
          go_ret
          refine Ans.mkF (fun e => ?_) (hR.out.1.trans1 (Frame.drewN _ _ _))
          subst e
          have := G1.out.symm.trans G2.out
          simp at this
          exact HX.out this
    · obtain rfl : k = xs.length := by omega
      go_wp2_with fail
      go_ret
      exact Ans.mkT (list_eq_of_get HL.out hR.out.2) (hR.out.1.trans1 (by (repeat first | assumption | exact Frame.refl _ _ | refine Frame.trans1 ?_ (Frame.alloc _ _ _) | refine Frame.trans1 ?_ (Frame.drew _ _) | refine Frame.trans1 ?_ (Frame.drewN _ _ _))))

set_option maxHeartbeats 2000000 in
theorem equal_prop (U1 U2 : Nat → Prop) (a1 a2 : Option Addr) (c1 c2 : Nat) (xs ys : List Pr) (w : World) (h1 : RF U1 w 2 Pr.cs a1 xs) (h2 : RF U2 w 2 Pr.cs a2 ys) (l1 : xs.length ≤ 1000000) (l2 : ys.length ≤ 1000000) :
    Calls Try.prog 133 #[.slice a1 xs.length c1, .slice a2 ys.length c2] w (Ans (xs = ys) w) := by
  have H1 := Lib.hid h1
  have H2 := Lib.hid h2
  clear h1 h2
  by_cases hlen : xs.length = ys.length
  case neg =>
    have hn := nat_bne_true hlen
    have HL := Lib.hid hlen
    clear hlen
    go_enter Try.func133, Try.ntmps133
    go_wp2_with fail
    go_ret
    exact Ans.mkF (fun e => HL.out (by rw [e])) (Frame.refl _ _)
  have HL := Lib.hid hlen
  have hle : ys.length ≤ xs.length := by omega
  have hge : xs.length ≤ ys.length := by omega
  have hn := nat_bne_false hlen
  clear hlen
  go_enter Try.func133, Try.ntmps133
  go_wp2_with fail
  go_loopw [13] (fun i wr => ∃ k : Nat, k ≤ xs.length ∧ i = .int .i64 k ∧ Hid (Frame [] w wr ∧ ∀ j, j < k → xs[j]? = ys[j]?)) (fun i _ => xs.length - (intOf i).toNat)
  case atStart => exact ⟨0, Nat.zero_le _, rfl, Frame.refl _ _, fun j h => by omega⟩
  case round =>
    obtain ⟨k, hk, rfl, hR⟩ := hrel
    by_cases hlt : k < xs.length
    · have g1 : xs[k]? = some xs[k] := by simp [hlt]
      have hlt2 : k < ys.length := by omega
      have g2 : ys[k]? = some ys[k] := by simp [hlt2]
      obtain ⟨b1, o1, rfl, -, q1⟩ := (H1.out.frame0 hR.out.1) k _ g1
      obtain ⟨b2, o2, rfl, -, q2⟩ := (H2.out.frame0 hR.out.1) k _ g2
      have x0 := q1 0 _ rfl
      have x1 := q1 1 _ rfl
      have y0 := q2 0 _ rfl
      have y1 := q2 1 _ rfl
      simp only [Nat.add_zero] at x0 y0
      generalize xs[k] = x at *
      generalize ys[k] = y at *
      have G1 := Lib.hid g1
      have G2 := Lib.hid g2
      clear q1 q2 g1 g2
      by_cases hxy : x = y
      case pos =>
          have Q' : Hid (∀ n, (binOp .neq 129 (.agg #[.string x.name, .string x.val]) (.agg #[.string y.name, .string y.val])).run Try.prog (wr.drewN n) = .ok (.bool false) (wr.drewN n)) := by
            show ∀ n, _
            intro n
            have := neq_prop x y (wr.drewN n)
            rw [decide_eq_true hxy] at this; exact this
          have HX := Lib.hid hxy
          clear hxy
          go_wp2_with fail
          refine wp_region_quiet_lit (by kernel_rfl) (by kernel_rfl) ?_
          iterate 8 (go_big_quiet_step (fail))
          go_big_quiet_want
          refine quiet_bin .neq 129 129 (.tmp 19) (.tmp 23) (.agg #[.string x.name, .string x.val]) (.agg #[.string y.name, .string y.val]) (.bool false) rfl rfl rfl (fun w => guard_prop _ _ _ _ _ w) ?_ ?_
          · rintro _ ⟨n, rfl⟩; exact Q'.out n
          go_big_quiet_on
          refine wpQuiet_nil ?_
          intro _ hw'
          obtain ⟨nq, hw'⟩ := hw'
          subst hw'
          go_wp2_with fail
          go_roundw
          case rel => exact ⟨k + 1, by omega, by first | rfl | go_num, Lib.hid ⟨hR.out.1.trans1 (Frame.drewN _ _ _), get_step hR.out.2 G1.out (by rw [HX.out]; exact G2.out)⟩⟩
          case measure => first | (simp [intOf]; done) | (simp [intOf]; omega)
      case neg =>
          have Q' : Hid (∀ n, (binOp .neq 129 (.agg #[.string x.name, .string x.val]) (.agg #[.string y.name, .string y.val])).run Try.prog (wr.drewN n) = .ok (.bool true) (wr.drewN n)) := by
            show ∀ n, _
            intro n
            have := neq_prop x y (wr.drewN n)
            rw [decide_eq_false hxy] at this; exact this
          have HX := Lib.hid hxy
          clear hxy
          go_wp2_with fail
          refine wp_region_quiet_lit (by kernel_rfl) (by kernel_rfl) ?_
          iterate 8 (go_big_quiet_step (fail))
          go_big_quiet_want
          refine quiet_bin .neq 129 129 (.tmp 19) (.tmp 23) (.agg #[.string x.name, .string x.val]) (.agg #[.string y.name, .string y.val]) (.bool true) rfl rfl rfl (fun w => guard_prop _ _ _ _ _ w) ?_ ?_
          · rintro _ ⟨n, rfl⟩; exact Q'.out n
          go_big_quiet_on
          refine wpQuiet_nil ?_
          intro _ hw'
          obtain ⟨nq, hw'⟩ := hw'
          subst hw'
          go_wp2_with fail
          go_ret
          refine Ans.mkF (fun e => ?_) (hR.out.1.trans1 (Frame.drewN _ _ _))
          subst e
          have := G1.out.symm.trans G2.out
          simp at this
          exact HX.out this
    · obtain rfl : k = xs.length := by omega
      go_wp2_with fail
      go_ret
      exact Ans.mkT (list_eq_of_get HL.out hR.out.2) (hR.out.1.trans1 (by (repeat first | assumption | exact Frame.refl _ _ | refine Frame.trans1 ?_ (Frame.alloc _ _ _) | refine Frame.trans1 ?_ (Frame.drew _ _) | refine Frame.trans1 ?_ (Frame.drewN _ _ _))))

set_option maxHeartbeats 2000000 in
theorem equal_edge (U1 U2 : Nat → Prop) (a1 a2 : Option Addr) (c1 c2 : Nat) (xs ys : List Ed) (w : World) (h1 : RF U1 w 4 Ed.cs a1 xs) (h2 : RF U2 w 4 Ed.cs a2 ys) (l1 : xs.length ≤ 1000000) (l2 : ys.length ≤ 1000000) :
    Calls Try.prog 87 #[.slice a1 xs.length c1, .slice a2 ys.length c2] w (Ans (xs = ys) w) := by
  have H1 := Lib.hid h1
  have H2 := Lib.hid h2
  clear h1 h2
  by_cases hlen : xs.length = ys.length
  case neg =>
    have hn := nat_bne_true hlen
    have HL := Lib.hid hlen
    clear hlen
    go_enter Try.func87, Try.ntmps87
    go_wp2_with fail
    go_ret
    exact Ans.mkF (fun e => HL.out (by rw [e])) (Frame.refl _ _)
  have HL := Lib.hid hlen
  have hle : ys.length ≤ xs.length := by omega
  have hge : xs.length ≤ ys.length := by omega
  have hn := nat_bne_false hlen
  clear hlen
  go_enter Try.func87, Try.ntmps87
  go_wp2_with fail
  go_loopw [13] (fun i wr => ∃ k : Nat, k ≤ xs.length ∧ i = .int .i64 k ∧ Hid (Frame [] w wr ∧ ∀ j, j < k → xs[j]? = ys[j]?)) (fun i _ => xs.length - (intOf i).toNat)
  case atStart => exact ⟨0, Nat.zero_le _, rfl, Frame.refl _ _, fun j h => by omega⟩
  case round =>
    obtain ⟨k, hk, rfl, hR⟩ := hrel
    by_cases hlt : k < xs.length
    · have g1 : xs[k]? = some xs[k] := by simp [hlt]
      have hlt2 : k < ys.length := by omega
      have g2 : ys[k]? = some ys[k] := by simp [hlt2]
      obtain ⟨b1, o1, rfl, -, q1⟩ := (H1.out.frame0 hR.out.1) k _ g1
      obtain ⟨b2, o2, rfl, -, q2⟩ := (H2.out.frame0 hR.out.1) k _ g2
      have x0 := q1 0 _ rfl
      have x1 := q1 1 _ rfl
      have x2 := q1 2 _ rfl
      have x3 := q1 3 _ rfl
      have y0 := q2 0 _ rfl
      have y1 := q2 1 _ rfl
      have y2 := q2 2 _ rfl
      have y3 := q2 3 _ rfl
      simp only [Nat.add_zero] at x0 y0
      generalize xs[k] = x at *
      generalize ys[k] = y at *
      have G1 := Lib.hid g1
      have G2 := Lib.hid g2
      clear q1 q2 g1 g2
      by_cases hxy : x = y
      case pos =>
          have Q' : Hid (∀ n, (binOp .neq 49 (.agg #[.int .i64 x.tok, .int .i64 x.src, .string x.lab, .int .i64 x.dst]) (.agg #[.int .i64 y.tok, .int .i64 y.src, .string y.lab, .int .i64 y.dst])).run Try.prog (wr.drewN n) = .ok (.bool false) (wr.drewN n)) := by
            show ∀ n, _
            intro n
            have := neq_edge x y (wr.drewN n)
            rw [decide_eq_true hxy] at this; exact this
          have HX := Lib.hid hxy
          clear hxy
          go_wp2_with fail
          refine wp_region_quiet_lit (by kernel_rfl) (by kernel_rfl) ?_
          iterate 8 (go_big_quiet_step (fail))
          go_big_quiet_want
          refine quiet_bin .neq 49 49 (.tmp 19) (.tmp 23) (.agg #[.int .i64 x.tok, .int .i64 x.src, .string x.lab, .int .i64 x.dst]) (.agg #[.int .i64 y.tok, .int .i64 y.src, .string y.lab, .int .i64 y.dst]) (.bool false) rfl rfl rfl (fun w => guard_edge _ _ _ _ _ w) ?_ ?_
          · rintro _ ⟨n, rfl⟩; exact Q'.out n
          go_big_quiet_on
          refine wpQuiet_nil ?_
          intro _ hw'
          obtain ⟨nq, hw'⟩ := hw'
          subst hw'
          go_wp2_with fail
          go_roundw
          case rel => exact ⟨k + 1, by omega, by first | rfl | go_num, Lib.hid ⟨hR.out.1.trans1 (Frame.drewN _ _ _), get_step hR.out.2 G1.out (by rw [HX.out]; exact G2.out)⟩⟩
          case measure => first | (simp [intOf]; done) | (simp [intOf]; omega)
      case neg =>
          have Q' : Hid (∀ n, (binOp .neq 49 (.agg #[.int .i64 x.tok, .int .i64 x.src, .string x.lab, .int .i64 x.dst]) (.agg #[.int .i64 y.tok, .int .i64 y.src, .string y.lab, .int .i64 y.dst])).run Try.prog (wr.drewN n) = .ok (.bool true) (wr.drewN n)) := by
            show ∀ n, _
            intro n
            have := neq_edge x y (wr.drewN n)
            rw [decide_eq_false hxy] at this; exact this
          have HX := Lib.hid hxy
          clear hxy
          go_wp2_with fail
          refine wp_region_quiet_lit (by kernel_rfl) (by kernel_rfl) ?_
          iterate 8 (go_big_quiet_step (fail))
          go_big_quiet_want
          refine quiet_bin .neq 49 49 (.tmp 19) (.tmp 23) (.agg #[.int .i64 x.tok, .int .i64 x.src, .string x.lab, .int .i64 x.dst]) (.agg #[.int .i64 y.tok, .int .i64 y.src, .string y.lab, .int .i64 y.dst]) (.bool true) rfl rfl rfl (fun w => guard_edge _ _ _ _ _ w) ?_ ?_
          · rintro _ ⟨n, rfl⟩; exact Q'.out n
          go_big_quiet_on
          refine wpQuiet_nil ?_
          intro _ hw'
          obtain ⟨nq, hw'⟩ := hw'
          subst hw'
          go_wp2_with fail
          go_ret
          refine Ans.mkF (fun e => ?_) (hR.out.1.trans1 (Frame.drewN _ _ _))
          subst e
          have := G1.out.symm.trans G2.out
          simp at this
          exact HX.out this
    · obtain rfl : k = xs.length := by omega
      go_wp2_with fail
      go_ret
      exact Ans.mkT (list_eq_of_get HL.out hR.out.2) (hR.out.1.trans1 (by (repeat first | assumption | exact Frame.refl _ _ | refine Frame.trans1 ?_ (Frame.alloc _ _ _) | refine Frame.trans1 ?_ (Frame.drew _ _) | refine Frame.trans1 ?_ (Frame.drewN _ _ _))))


set_option maxHeartbeats 2000000 in
theorem sameNode_any (U1 U2 : Nat → Prop) (n m : Nv) (la pa lb pb : Option Addr) (lc pc ld pd : Nat) (w : World) (h1 : RF U1 w 1 encS la n.2.1) (h2 : RF U1 w 2 Pr.cs pa n.2.2) (h3 : RF U2 w 1 encS lb m.2.1) (h4 : RF U2 w 2 Pr.cs pb m.2.2)
    (l1 : n.2.1.length ≤ 1000000) (l2 : n.2.2.length ≤ 1000000) (l3 : m.2.1.length ≤ 1000000) (l4 : m.2.2.length ≤ 1000000) :
    Calls Try.prog 89 #[.agg #[.int .i64 n.1, .slice la n.2.1.length lc, .slice pa n.2.2.length pc], .agg #[.int .i64 m.1, .slice lb m.2.1.length ld, .slice pb m.2.2.length pd]] w (Ans (n = m) w) := by
  obtain ⟨i, ls, ps⟩ := n
  obtain ⟨j, ms, qs⟩ := m
  simp only at *
  have HL := Lib.hid (fun w' (f : Frame [] w w') => equal_str U1 U2 la lb lc ld ls ms w' (h1.frame0 f) (h3.frame0 f) l1 l3)
  have HP := Lib.hid (fun w' (f : Frame [] w w') => equal_prop U1 U2 pa pb pc pd ps qs w' (h2.frame0 f) (h4.frame0 f) l2 l4)
  clear h1 h2 h3 h4
  by_cases hi : i = j
  case neg =>
    have hb : (i == j) = false := by simp [hi]
    have HI := Lib.hid hi
    clear hi
    go_enter Try.func89, Try.ntmps89
    go_wp2_with fail
    go_ret
    exact Ans.mkF (fun e => HI.out (by injection e)) (by (repeat first | assumption | exact Frame.refl _ _ | refine Frame.trans1 ?_ (Frame.alloc _ _ _) | refine Frame.trans1 ?_ (Frame.drew _ _) | refine Frame.trans1 ?_ (Frame.drewN _ _ _)))
  have hb : (i == j) = true := by simp [hi]
  have HI := Lib.hid hi
  clear hi
  by_cases hl : ls = ms
  case neg =>
    have HN := Lib.hid (fun w' f => Ans.no (HL.out w' f) hl)
    have HX := Lib.hid hl
    clear hl
    go_enter Try.func89, Try.ntmps89
    go_wp2_with fail
    refine (HN.out _ (by (repeat first | assumption | exact Frame.refl _ _ | refine Frame.trans1 ?_ (Frame.alloc _ _ _) | refine Frame.trans1 ?_ (Frame.drew _ _) | refine Frame.trans1 ?_ (Frame.drewN _ _ _)))).mono ?_
    rintro e w6 ⟨rfl, f6⟩
    have F6 := Lib.hid ((show Frame [] w _ from by (repeat first | assumption | exact Frame.refl _ _ | refine Frame.trans1 ?_ (Frame.alloc _ _ _) | refine Frame.trans1 ?_ (Frame.drew _ _) | refine Frame.trans1 ?_ (Frame.drewN _ _ _))).trans1 f6)
    clear f6
    go_wp2_with fail
    go_ret
    exact Ans.mkF (fun e => HX.out (by simp at e; exact e.2.1)) F6.out
  have HN := Lib.hid (fun w' f => Ans.yes (HL.out w' f) hl)
  have HX := Lib.hid hl
  clear hl HL
  by_cases hp : ps = qs
  case neg =>
    have HM := Lib.hid (fun w' f => Ans.no (HP.out w' f) hp)
    have HY := Lib.hid hp
    clear hp
    go_enter Try.func89, Try.ntmps89
    go_wp2_with fail
    have fz : Frame [] w ((w.alloc (.cells #[.int .i64 i, .slice la ls.length lc, .slice pa ps.length pc] 86)).alloc (.cells #[.int .i64 j, .slice lb ms.length ld, .slice pb qs.length pd] 86)) := (Frame.alloc _ _ _).trans1 (Frame.alloc _ _ _)
    have bm := (Blk.new w 86 #[.int .i64 i, .slice la ls.length lc, .slice pa ps.length pc]).alloc (.cells #[.int .i64 j, .slice lb ms.length ld, .slice pb qs.length pd] 86)
    have bn := Blk.new (w.alloc (.cells #[.int .i64 i, .slice la ls.length lc, .slice pa ps.length pc] 86)) 86 #[.int .i64 j, .slice lb ms.length ld, .slice pb qs.length pd]
    simp only [World.size_alloc] at bn
    generalize (w.alloc (.cells #[.int .i64 i, .slice la ls.length lc, .slice pa ps.length pc] 86)).alloc (.cells #[.int .i64 j, .slice lb ms.length ld, .slice pb qs.length pd] 86) = wz at *
    refine (HN.out _ fz).mono ?_
    rintro e w6 ⟨rfl, f6⟩
    have F6 := Lib.hid (fz.trans1 f6)
    have x2 := (bm.frame f6 (by simp)).at 2 rfl
    have y2 := (bn.frame f6 (by simp)).at 2 rfl
    clear f6 fz bm bn
    go_wp2_with fail
    refine (HM.out _ F6.out).mono ?_
    rintro e w7 ⟨rfl, f7⟩
    have F7 := Lib.hid (F6.out.trans1 f7)
    clear f7
    go_wp2_with fail
    go_ret
    exact Ans.mkF (fun e => HY.out (by simp at e; exact e.2.2)) F7.out
  have HM := Lib.hid (fun w' f => Ans.yes (HP.out w' f) hp)
  have HY := Lib.hid hp
  clear hp
  go_enter Try.func89, Try.ntmps89
  go_wp2_with fail
  have fz : Frame [] w ((w.alloc (.cells #[.int .i64 i, .slice la ls.length lc, .slice pa ps.length pc] 86)).alloc (.cells #[.int .i64 j, .slice lb ms.length ld, .slice pb qs.length pd] 86)) := (Frame.alloc _ _ _).trans1 (Frame.alloc _ _ _)
  have bm := (Blk.new w 86 #[.int .i64 i, .slice la ls.length lc, .slice pa ps.length pc]).alloc (.cells #[.int .i64 j, .slice lb ms.length ld, .slice pb qs.length pd] 86)
  have bn := Blk.new (w.alloc (.cells #[.int .i64 i, .slice la ls.length lc, .slice pa ps.length pc] 86)) 86 #[.int .i64 j, .slice lb ms.length ld, .slice pb qs.length pd]
  simp only [World.size_alloc] at bn
  generalize (w.alloc (.cells #[.int .i64 i, .slice la ls.length lc, .slice pa ps.length pc] 86)).alloc (.cells #[.int .i64 j, .slice lb ms.length ld, .slice pb qs.length pd] 86) = wz at *
  refine (HN.out _ fz).mono ?_
  rintro e w6 ⟨rfl, f6⟩
  have F6 := Lib.hid (fz.trans1 f6)
  have x2 := (bm.frame f6 (by simp)).at 2 rfl
  have y2 := (bn.frame f6 (by simp)).at 2 rfl
  clear f6 fz bm bn
  go_wp2_with fail
  refine (HM.out _ F6.out).mono ?_
  rintro e w7 ⟨rfl, f7⟩
  have F7 := Lib.hid (F6.out.trans1 f7)
  clear f7
  go_wp2_with fail
  go_ret
  exact Ans.mkT (by rw [HI.out, HX.out, HY.out]) F7.out
end Go.Proofs.Ytolkmapdbilolaa

