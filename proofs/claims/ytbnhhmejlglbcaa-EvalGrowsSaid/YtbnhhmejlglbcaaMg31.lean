/- nat.Add. -/
import Derived.Test.YtbnhhmejlglbcaaMg30
import Derived.Test.YtbnhhmejlglbcaaMg18
import Derived.IntWalk
namespace Go.Proofs.Ytbnhhmejlglbcaa
open Go.RowKit
set_option linter.unusedSimpArgs false
set_option linter.unusedVariables false

/-- One result, a number. -/
def NREnd (x : Option Nat) (w : World) (e : Ending) (w' : World) : Prop := ∃ v, e = .returned v ∧ NR w' v x ∧ Frame [] w w'
theorem set_mid {zs xs : List Int} {i : Nat} (hz : zs.length = i) (hi : i < xs.length) (d : Int) : (zs ++ xs.drop i).set i d = (zs ++ [d]) ++ xs.drop (i + 1) := by
  subst hz
  rw [List.set_append_right _ _ (Nat.le_refl _), Nat.sub_self, ← List.getElem_cons_drop (h := hi), List.set_cons_zero, List.append_assoc]
  simp
theorem get_mid {zs xs : List Int} {i : Nat} {x : Int} (hz : zs.length = i) (hx : xs[i]? = some x) : (zs ++ xs.drop i)[i]? = some x := by
  subst hz
  rw [List.getElem?_append_right (Nat.le_refl _), Nat.sub_self, List.getElem?_drop, Nat.add_zero]; exact hx
theorem URow.sl' {w : World} {b c n : Nat} {xs : List Int} (h : URow w b c xs) (hn : xs.length = n) : Sl w 77 1 encD (.slice (some ⟨b, 0, none⟩) n c) xs [b] := by subst hn; exact h.sl
theorem valD_take_next {xs : List Int} {i : Nat} {x : Int} (h : xs[i]? = some x) : valD (xs.take (i + 1)) = valD (xs.take i) + BB ^ i * x.toNat := by
  have hi := (List.getElem?_eq_some_iff.mp h).1
  rw [take_one h, valD_app, List.length_take, Nat.min_eq_left (by omega)]
  simp [valD]
theorem valD_take_over {xs : List Int} {i : Nat} (h : xs.length ≤ i) : valD (xs.take (i + 1)) = valD (xs.take i) := by
  rw [List.take_of_length_le (by omega), List.take_of_length_le h]
/-- A sum so far. -/
structure AddS (xs ys : List Int) (zs : List Int) (i : Nat) (c : Int) : Prop where
  len : zs.length = i
  ok : DOk zs
  c0 : 0 ≤ c ∧ c ≤ 1
  val : valD zs + BB ^ i * c.toNat = valD (xs.take i) + valD (ys.take i)
theorem AddS.start (xs ys : List Int) : AddS xs ys [] 0 0 := ⟨rfl, by intro d h; simp at h, by omega, by simp [valD]⟩
theorem AddS.next {xs ys zs : List Int} {i : Nat} {c x y : Int} (h : AddS xs ys zs i c) (hx : xs[i]? = some x) (bx : 0 ≤ x ∧ x < 4294967296) (hb : 0 ≤ y ∧ y < 4294967296) (hy : ys[i]? = some y ∨ (ys.length ≤ i ∧ y = 0)) :
    AddS xs ys (zs ++ [(c + x + y) % 4294967296]) (i + 1) ((c + x + y) / 4294967296) := by
  have hc := h.c0
  refine ⟨by simp [h.len], h.ok.app (by intro d hd; simp at hd; subst hd; omega), by omega, ?_⟩
  have ey : valD (ys.take (i + 1)) = valD (ys.take i) + BB ^ i * y.toNat := by
    rcases hy with hy | ⟨hl, rfl⟩
    · exact valD_take_next hy
    · rw [valD_take_over hl]; simp
  rw [valD_take_next hx, ey, valD_app, h.len]
  have hv := h.val
  have e1 : ((c + x + y) % 4294967296).toNat + BB * ((c + x + y) / 4294967296).toNat = c.toNat + x.toNat + y.toNat := by unfold BB; omega
  have e2 : valD [(c + x + y) % 4294967296] = ((c + x + y) % 4294967296).toNat := by simp [valD]
  rw [e2, Nat.pow_succ, Nat.mul_assoc]
  have e3 : BB ^ i * ((c + x + y) % 4294967296).toNat + BB ^ i * (BB * ((c + x + y) / 4294967296).toNat) = BB ^ i * c.toNat + BB ^ i * x.toNat + BB ^ i * y.toNat := by
    rw [← Nat.mul_add, e1, Nat.mul_add, Nat.mul_add]
  omega
theorem AddS.done {xs ys zs : List Int} {i : Nat} {c : Int} (h : AddS xs ys zs i c) (hx : xs.length ≤ i) (hy : ys.length ≤ i) : digW (zs ++ [c]) = digs (valD xs + valD ys) ∧ DOk (zs ++ [c]) := by
  have hc := h.c0
  refine ⟨?_, h.ok.app (by intro d hd; simp at hd; subst hd; omega)⟩
  unfold digW
  rw [valD_app, h.len]
  have hv := h.val
  rw [List.take_of_length_le hx, List.take_of_length_le hy] at hv
  rw [← hv]
  simp [valD]
/-- A number's value cell, filled. -/
theorem putN {w : World} {b : Nat} (h : Blk w b 36 #[.bool false, .slice none 0 0]) (i v : Value) : Blk ((w.setCell ⟨b, 0, none⟩ i).setCell ⟨b, 1, none⟩ v) b 36 #[i, v] := by
  have := (h.set 0 i).set 1 v
  simpa using this
theorem putN_frame {w0 w : World} {b : Nat} (hb : w0.heap.size ≤ b) (f : Frame [] w0 w) (i v : Value) : Frame [] w0 ((w.setCell ⟨b, 0, none⟩ i).setCell ⟨b, 1, none⟩ v) :=
  (f.trans (Frame.setCell (S := [b]) _ _ _ (by simp)) (fun x hx => by simp at hx; subst hx; exact .inr hb)).trans (Frame.setCell (S := [b]) _ _ _ (by simp)) (fun x hx => by simp at hx; subst hx; exact .inr hb)

set_option maxHeartbeats 4000000 in
set_option maxRecDepth 100000 in
theorem nadd_fin (a1 a2 : Option Addr) (c1 c2 m n : Nat) (w : World) (h1 : DR w a1 c1 (digs m)) (h2 : DR w a2 c2 (digs n)) (l1 : (digs m).length ≤ SZ) (l2 : (digs n).length ≤ SZ) :
    Calls Try.prog 68 #[.agg #[.bool false, .slice a1 (digs m).length c1], .agg #[.bool false, .slice a2 (digs n).length c2]] w (NREnd (some (m + n)) w) := by
  have H := Lib.hid (And.intro h1 h2)
  have WT := Lib.hid (fun w' (f : Frame [] w w') => whole_two a1 a2 c1 c2 m n w' (h1.frame f) (h2.frame f) l1 l2)
  obtain ⟨p, hp⟩ : ∃ p, (digs m).length = p := ⟨_, rfl⟩
  obtain ⟨q, hq⟩ : ∃ q, (digs n).length = q := ⟨_, rfl⟩
  rw [hp] at WT l1 ⊢
  rw [hq] at WT l2 ⊢
  have HP := Lib.hid hp
  have HQ := Lib.hid hq
  have hlp : p ≤ 100000000 := l1
  have hlq : q ≤ 100000000 := l2
  clear h1 h2 hp hq l1 l2
  go_enter Try.func68, Try.ntmps68
  go_upto_region 1 with fail
  obtain ⟨B0, B1, F⟩ := boxes2 w #[.bool false, .slice a1 p c1] #[.bool false, .slice a2 q c2]
  have B2 := Blk.new ((w.alloc (.cells #[.bool false, .slice a1 p c1] 36)).alloc (.cells #[.bool false, .slice a2 q c2] 36)) 36 #[.bool false, .slice none 0 0]
  have B0 := B0.alloc (.cells #[.bool false, .slice none 0 0] 36)
  have B1 := B1.alloc (.cells #[.bool false, .slice none 0 0] 36)
  have FF := Lib.hid (F.trans1 (Frame.alloc [] _ (.cells #[.bool false, .slice none 0 0] 36)))
  simp only [World.size_alloc] at B2
  clear F
  generalize ((w.alloc (.cells #[.bool false, .slice a1 p c1] 36)).alloc (.cells #[.bool false, .slice a2 q c2] 36)).alloc (.cells #[.bool false, .slice none 0 0] 36) = w1 at *
  have x0 := B0.at 0 rfl
  have x1 := B1.at 0 rfl
  have y0 := framed_cell (B0.at 1 rfl)
  have y1 := framed_cell (B1.at 1 rfl)
  have B2h := Lib.hid B2
  clear B0 B1 B2
  go_wp2_with fail
  refine wp_region_framed (by kernel_rfl) (by kernel_rfl) ?_
  repeat (go_big_quiet_step (exact framed_same (WT.out _ (FF.out.trans1 (FramedBy.h _)) _ _ _ (by simp))))
  refine wpQuiet_nil ?_
  intro w6 hw
  have f6 := framed_out hw
  clear hw
  clear x0 x1 y0 y1
  have F6 := Lib.hid (FF.out.trans1 f6)
  have B6 := Lib.hid (B2h.out.frame f6 (by simp))
  clear f6 FF WT B2h
  generalize hb : w.heap.size + 1 + 1 = b at *
  have HB : Hid (w.heap.size ≤ b) := by show _ ≤ _; omega
  have BLT : Hid (b < w6.heap.size) := B6.out.lt
  clear hb
  by_cases hlt : p < q
  · have d1 : decide ((p : Int) < q) = true := decide_eq_true (by omega)
    have HD1 := Lib.hid (H.out.2.frame F6.out)
    have HD2 := Lib.hid (H.out.1.frame F6.out)
    have hle : p ≤ q := by omega
    have CL := clone_dr a2 c2 (digs n) w6 HD1.out (by rw [HQ.out]; omega)
    rw [HQ.out] at CL
    go_wp2_with fail
    refine CL.mono ?_
    rintro e w7 ⟨a3, c3, G, rfl, s7, n7, f7⟩
    have HM : Hid (valD (digs n) = n ∧ valD (digs m) = m) := ⟨valD_digs n, valD_digs m⟩
    have HOK := Lib.hid (And.intro (digs_ok n) (digs_ok m))
    rw [HQ.out] at s7 ⊢
    generalize digs n = xs at *
    generalize digs m = ys at *
    have S7 := Lib.hid (And.intro s7 n7)
    have F67 := Lib.hid f7
    have B7 := Lib.hid (B6.out.frame f7 (by simp))
    clear s7 n7 f7 CL HD1 B6 H
    go_wp2_with fail
    go_loopw [8, 9, 34] (fun cv _ iv wr => ∃ (c : Int) (i : Nat) (zs : List Int), i ≤ q ∧ cv = .int .u64 c ∧ iv = .int .i64 i ∧ Hid (AddS xs ys zs i c ∧ Sl wr 77 1 encD (.slice a3 q c3) (zs ++ xs.drop i) G ∧ Frame G w7 wr)) (fun _ _ iv _ => (q - intOf iv).toNat)
    case atStart => exact ⟨0, 0, [], Nat.zero_le _, rfl, rfl, Lib.hid ⟨AddS.start xs ys, by simpa using S7.out.1, Frame.refl _ _⟩⟩
    case round =>
      rename World => wr
      obtain ⟨c, i, zs, hi, rfl, rfl, hR⟩ := hrel
      by_cases hil : i < q
      · have hx : xs[i]? = some (xs[i]'(by rw [HQ.out]; omega)) := List.getElem?_eq_getElem _
        generalize xs[i]'(by rw [HQ.out]; omega) = x at hx
        obtain ⟨hA, hS, hF⟩ := hR.out
        have hlen := hA.len
        have hne : zs ++ xs.drop i ≠ [] := fun h => by
          have := congrArg List.length h
          rw [List.length_append, List.length_drop, HQ.out] at this
          simp at this; omega
        obtain ⟨b3, rfl, hn, rfl, hU⟩ := URow.of_sl hS hne
        have r0 := hU.cell (get_mid hlen hx)
        have r1 := hU.frozen i
        have bx := HOK.out.1.at hx
        have hc := hA.c0
        have UP := Lib.hid (fun d (w' : World) (f : Frame [] wr w') => (hU.frame f (by simp)).put (k := i) (by rw [← hn]; omega) d)
        have HA := Lib.hid hA
        have HF := Lib.hid hF
        have SM := Lib.hid (fun d => set_mid (xs := xs) hlen (by rw [HQ.out]; omega) d)
        have SL := Lib.hid (fun d => show ((zs ++ xs.drop i).set i d).length = q by rw [List.length_set, ← hn])
        have HXi := Lib.hid hx
        clear hA hS hF hR hU hne hn hx
        have w1 : IntKind.u64.wrap (c + x) = c + x := IntWalk.u64_in _ (by omega)
        by_cases hiq : i < p
        · have dq : decide ((i : Int) < p) = true := decide_eq_true (by omega)
          have hy : ys[i]? = some (ys[i]'(by rw [HP.out]; omega)) := List.getElem?_eq_getElem _
          generalize ys[i]'(by rw [HP.out]; omega) = y at hy
          have bY := HOK.out.2.at hy
          obtain ⟨b4, off, rfl, z1⟩ := HD2.out.cell hy
          have w2 : IntKind.u64.wrap (c + x + y) = c + x + y := IntWalk.u64_in _ (by omega)
          have nG : b4 ∉ [b3] := by
            have h1 : b4 < _ := World.block_lt_of_cell? _ _ z1
            have h2 := S7.out.2 b3 (by simp)
            simp only [List.mem_singleton]
            omega
          have z2 := HF.out.cell (F67.out.cell z1 (by simp)) nG
          have w3 : IntKind.u32.wrap (c + x + y) = (c + x + y) % 4294967296 := IntKind.wrap_u32 _
          have NX := Lib.hid (HA.out.next HXi.out bx bY (.inl hy))
          have UPd := Lib.hid (UP.out ((c + x + y) % 4294967296))
          clear z1 nG hy UP
          go_wp2_with fail
          go_roundw
          case rel => exact ⟨_, i + 1, zs ++ [(c + x + y) % 4294967296], by omega, by first | trivial | rfl, by first | trivial | rfl | go_num, Lib.hid ⟨NX.out, by rw [← SM.out]; exact (UPd.out _ (Frame.refl _ _)).sl' (SL.out _), HF.out.trans1 (Frame.setCell _ _ _ (by simp))⟩⟩
          case measure => first | (simp [intOf]; done) | (simp [intOf]; omega)
        · have dq : decide ((i : Int) < p) = false := decide_eq_false (by omega)
          have w3 : IntKind.u32.wrap (c + x) = (c + x) % 4294967296 := IntKind.wrap_u32 _
          have NX := HA.out.next (y := 0) HXi.out bx (by omega) (.inr ⟨by rw [HP.out]; omega, rfl⟩)
          rw [Int.add_zero] at NX
          have NX := Lib.hid NX
          have UPd := Lib.hid (UP.out ((c + x) % 4294967296))
          clear UP
          go_wp2_with fail
          go_roundw
          case rel => exact ⟨_, i + 1, zs ++ [(c + x) % 4294967296], by omega, by first | trivial | rfl, by first | trivial | rfl | go_num, Lib.hid ⟨NX.out, by rw [← SM.out]; exact (UPd.out _ (Frame.refl _ _)).sl' (SL.out _), HF.out.trans1 (Frame.setCell _ _ _ (by simp))⟩⟩
          case measure => first | (simp [intOf]; done) | (simp [intOf]; omega)
      · obtain rfl : i = q := by omega
        obtain ⟨hA, hS, hF⟩ := hR.out
        have hlen := hA.len
        have hc := hA.c0
        have hD := hA.done (by rw [HQ.out]; omega) (by rw [HP.out]; omega)
        rw [HM.out.1, HM.out.2] at hD
        rw [List.drop_eq_nil_of_le (by rw [HQ.out]; omega), List.append_nil] at hS
        have DN := Lib.hid hD
        have w3 : IntKind.u32.wrap c = c := IntWalk.u32_in _ (by omega)
        have S9 := Lib.hid hS
        have F9 := Lib.hid hF
        have B9 : Hid (Blk wr b 36 #[.bool false, .slice none 0 0]) := B7.out.frame hF (fun hm => by
          have h1 := S7.out.2 b hm
          have h2 := B7.out.lt
          have h3 := BLT.out
          omega)
        have F0 : Hid (Frame [] w wr) := (F6.out.trans1 F67.out).trans hF (fun x hx => .inr (by have := S7.out.2 x hx; have := F6.out.size; omega))
        have GN : Hid (∀ x ∈ G, w.heap.size ≤ x ∧ x ≠ b) := fun x hx => by
          have h1 := S7.out.2 x hx
          have h3 := BLT.out
          have := F6.out.size
          exact ⟨by omega, by omega⟩
        have hlz : zs.length = i := hlen
        clear hA hS hF hR hD hlen
        go_wp2_with (at_builtin; refine wpList_append_sl _ rfl (.tmp 63) (.tmp 66) 34 rfl 77 1 4 _ encD Try.underlying34 infoD rfl (by omega) (.slice a3 i c3) zs G rfl (S9.out.frame0 (by (repeat first | assumption | exact Frame.refl _ _ | refine Frame.trans1 ?_ (Frame.alloc _ _ _) | refine Frame.trans1 ?_ (Frame.drew _ _) | refine Frame.trans1 ?_ (Frame.drewN _ _ _)))) _ 1 1 [c] _ rfl (Blk.new _ _ _) rfl rfl encD_len encD_one (by omega) (by omega) (by omega) ?_; intro b' cap' w8 sl8 f8 hb8; have f8w : Frame G wr w8 := (show Frame G wr _ from by (repeat first | assumption | exact Frame.refl _ _ | refine Frame.trans1 ?_ (Frame.alloc _ _ _) | refine Frame.trans1 ?_ (Frame.drew _ _) | refine Frame.trans1 ?_ (Frame.drewN _ _ _))).trans1 f8; have hbw : w.heap.size ≤ b' := (by rcases hb8 with h | h; exact (GN.out _ h).1; have := F0.out.size; rw [h]; simp; omega); have R8 := Lib.hid (And.intro sl8 (And.intro f8w hbw)); clear sl8 f8w f8 hb8 hbw)
        have hl8 : (zs ++ [c]).length = zs.length + 1 := by simp
        have WH := whole_dr (some ⟨b', 0, none⟩) cap' (zs ++ [c]) w8 (sl_dr R8.out.1 DN.out.2) (by rw [hl8]; omega)
        have D8 := (sl_dr R8.out.1 DN.out.2).dig
        rw [DN.out.1] at D8
        rw [DN.out.1, hl8] at WH
        rw [Nat.add_comm n m] at D8 WH
        have B8 := B9.out.frame R8.out.2.1 (fun hm => (GN.out b hm).2 rfl)
        have F8 := Lib.hid (F0.out.trans R8.out.2.1 (fun x hx => .inr (GN.out x hx).1))
        rw [hlz] at WH
        refine WH.mono ?_
        rintro e w8 ⟨rfl, rfl⟩
        have y0 := B8.at 0 rfl
        have y1 := B8.at 1 rfl
        have zf := B8.frozen
        have B5 := Lib.hid (putN B8 (.bool false) (.slice (some ⟨b', 0, none⟩) (digs (m + n)).length cap'))
        have KD := Lib.hid (KeepD.blk (show Frame [b] w8 _ from (Frame.setCell (S := [b]) w8 ⟨b, 0, none⟩ (.bool false) (by simp)).trans1 (Frame.setCell _ ⟨b, 1, none⟩ (.slice (some ⟨b', 0, none⟩) (digs (m + n)).length cap') (by simp))) B8 (by decide))
        have F5 := Lib.hid (putN_frame HB.out F8.out (.bool false) (.slice (some ⟨b', 0, none⟩) (digs (m + n)).length cap'))
        have D8h := Lib.hid D8
        clear B8 D8 WH
        go_wp2_with fail
        refine bodyPost_ret (results_cell_row rfl _ _ b 36 #[.bool false, .slice (some ⟨b', 0, none⟩) (digs (m + n)).length cap'] (0, 0) _ rfl B5.out Try.underlying36 rfl (by kernel_rfl)) rfl ?_
        exact ⟨_, rfl, ⟨_, _, rfl, D8h.out.kept KD.out⟩, F5.out⟩
  · have d1 : decide ((p : Int) < q) = false := decide_eq_false (by omega)
    have HD1 := Lib.hid (H.out.1.frame F6.out)
    have HD2 := Lib.hid (H.out.2.frame F6.out)
    have hle : q ≤ p := by omega
    have CL := clone_dr a1 c1 (digs m) w6 HD1.out (by rw [HP.out]; omega)
    rw [HP.out] at CL
    go_wp2_with fail
    refine CL.mono ?_
    rintro e w7 ⟨a3, c3, G, rfl, s7, n7, f7⟩
    have HM : Hid (valD (digs m) = m ∧ valD (digs n) = n) := ⟨valD_digs m, valD_digs n⟩
    have HOK := Lib.hid (And.intro (digs_ok m) (digs_ok n))
    rw [HP.out] at s7 ⊢
    generalize digs m = xs at *
    generalize digs n = ys at *
    have S7 := Lib.hid (And.intro s7 n7)
    have F67 := Lib.hid f7
    have B7 := Lib.hid (B6.out.frame f7 (by simp))
    clear s7 n7 f7 CL HD1 B6 H
    go_wp2_with fail
    go_loopw [8, 9, 34] (fun cv _ iv wr => ∃ (c : Int) (i : Nat) (zs : List Int), i ≤ p ∧ cv = .int .u64 c ∧ iv = .int .i64 i ∧ Hid (AddS xs ys zs i c ∧ Sl wr 77 1 encD (.slice a3 p c3) (zs ++ xs.drop i) G ∧ Frame G w7 wr)) (fun _ _ iv _ => (p - intOf iv).toNat)
    case atStart => exact ⟨0, 0, [], Nat.zero_le _, rfl, rfl, Lib.hid ⟨AddS.start xs ys, by simpa using S7.out.1, Frame.refl _ _⟩⟩
    case round =>
      rename World => wr
      obtain ⟨c, i, zs, hi, rfl, rfl, hR⟩ := hrel
      by_cases hil : i < p
      · have hx : xs[i]? = some (xs[i]'(by rw [HP.out]; omega)) := List.getElem?_eq_getElem _
        generalize xs[i]'(by rw [HP.out]; omega) = x at hx
        obtain ⟨hA, hS, hF⟩ := hR.out
        have hlen := hA.len
        have hne : zs ++ xs.drop i ≠ [] := fun h => by
          have := congrArg List.length h
          rw [List.length_append, List.length_drop, HP.out] at this
          simp at this; omega
        obtain ⟨b3, rfl, hn, rfl, hU⟩ := URow.of_sl hS hne
        have r0 := hU.cell (get_mid hlen hx)
        have r1 := hU.frozen i
        have bx := HOK.out.1.at hx
        have hc := hA.c0
        have UP := Lib.hid (fun d (w' : World) (f : Frame [] wr w') => (hU.frame f (by simp)).put (k := i) (by rw [← hn]; omega) d)
        have HA := Lib.hid hA
        have HF := Lib.hid hF
        have SM := Lib.hid (fun d => set_mid (xs := xs) hlen (by rw [HP.out]; omega) d)
        have SL := Lib.hid (fun d => show ((zs ++ xs.drop i).set i d).length = p by rw [List.length_set, ← hn])
        have HXi := Lib.hid hx
        clear hA hS hF hR hU hne hn hx
        have w1 : IntKind.u64.wrap (c + x) = c + x := IntWalk.u64_in _ (by omega)
        by_cases hiq : i < q
        · have dq : decide ((i : Int) < q) = true := decide_eq_true (by omega)
          have hy : ys[i]? = some (ys[i]'(by rw [HQ.out]; omega)) := List.getElem?_eq_getElem _
          generalize ys[i]'(by rw [HQ.out]; omega) = y at hy
          have bY := HOK.out.2.at hy
          obtain ⟨b4, off, rfl, z1⟩ := HD2.out.cell hy
          have w2 : IntKind.u64.wrap (c + x + y) = c + x + y := IntWalk.u64_in _ (by omega)
          have nG : b4 ∉ [b3] := by
            have h1 : b4 < _ := World.block_lt_of_cell? _ _ z1
            have h2 := S7.out.2 b3 (by simp)
            simp only [List.mem_singleton]
            omega
          have z2 := HF.out.cell (F67.out.cell z1 (by simp)) nG
          have w3 : IntKind.u32.wrap (c + x + y) = (c + x + y) % 4294967296 := IntKind.wrap_u32 _
          have NX := Lib.hid (HA.out.next HXi.out bx bY (.inl hy))
          have UPd := Lib.hid (UP.out ((c + x + y) % 4294967296))
          clear z1 nG hy UP
          go_wp2_with fail
          go_roundw
          case rel => exact ⟨_, i + 1, zs ++ [(c + x + y) % 4294967296], by omega, by first | trivial | rfl, by first | trivial | rfl | go_num, Lib.hid ⟨NX.out, by rw [← SM.out]; exact (UPd.out _ (Frame.refl _ _)).sl' (SL.out _), HF.out.trans1 (Frame.setCell _ _ _ (by simp))⟩⟩
          case measure => first | (simp [intOf]; done) | (simp [intOf]; omega)
        · have dq : decide ((i : Int) < q) = false := decide_eq_false (by omega)
          have w3 : IntKind.u32.wrap (c + x) = (c + x) % 4294967296 := IntKind.wrap_u32 _
          have NX := HA.out.next (y := 0) HXi.out bx (by omega) (.inr ⟨by rw [HQ.out]; omega, rfl⟩)
          rw [Int.add_zero] at NX
          have NX := Lib.hid NX
          have UPd := Lib.hid (UP.out ((c + x) % 4294967296))
          clear UP
          go_wp2_with fail
          go_roundw
          case rel => exact ⟨_, i + 1, zs ++ [(c + x) % 4294967296], by omega, by first | trivial | rfl, by first | trivial | rfl | go_num, Lib.hid ⟨NX.out, by rw [← SM.out]; exact (UPd.out _ (Frame.refl _ _)).sl' (SL.out _), HF.out.trans1 (Frame.setCell _ _ _ (by simp))⟩⟩
          case measure => first | (simp [intOf]; done) | (simp [intOf]; omega)
      · obtain rfl : i = p := by omega
        obtain ⟨hA, hS, hF⟩ := hR.out
        have hlen := hA.len
        have hc := hA.c0
        have hD := hA.done (by rw [HP.out]; omega) (by rw [HQ.out]; omega)
        rw [HM.out.1, HM.out.2] at hD
        rw [List.drop_eq_nil_of_le (by rw [HP.out]; omega), List.append_nil] at hS
        have DN := Lib.hid hD
        have w3 : IntKind.u32.wrap c = c := IntWalk.u32_in _ (by omega)
        have S9 := Lib.hid hS
        have F9 := Lib.hid hF
        have B9 : Hid (Blk wr b 36 #[.bool false, .slice none 0 0]) := B7.out.frame hF (fun hm => by
          have h1 := S7.out.2 b hm
          have h2 := B7.out.lt
          have h3 := BLT.out
          omega)
        have F0 : Hid (Frame [] w wr) := (F6.out.trans1 F67.out).trans hF (fun x hx => .inr (by have := S7.out.2 x hx; have := F6.out.size; omega))
        have GN : Hid (∀ x ∈ G, w.heap.size ≤ x ∧ x ≠ b) := fun x hx => by
          have h1 := S7.out.2 x hx
          have h3 := BLT.out
          have := F6.out.size
          exact ⟨by omega, by omega⟩
        have hlz : zs.length = i := hlen
        clear hA hS hF hR hD hlen
        go_wp2_with (at_builtin; refine wpList_append_sl _ rfl (.tmp 63) (.tmp 66) 34 rfl 77 1 4 _ encD Try.underlying34 infoD rfl (by omega) (.slice a3 i c3) zs G rfl (S9.out.frame0 (by (repeat first | assumption | exact Frame.refl _ _ | refine Frame.trans1 ?_ (Frame.alloc _ _ _) | refine Frame.trans1 ?_ (Frame.drew _ _) | refine Frame.trans1 ?_ (Frame.drewN _ _ _)))) _ 1 1 [c] _ rfl (Blk.new _ _ _) rfl rfl encD_len encD_one (by omega) (by omega) (by omega) ?_; intro b' cap' w8 sl8 f8 hb8; have f8w : Frame G wr w8 := (show Frame G wr _ from by (repeat first | assumption | exact Frame.refl _ _ | refine Frame.trans1 ?_ (Frame.alloc _ _ _) | refine Frame.trans1 ?_ (Frame.drew _ _) | refine Frame.trans1 ?_ (Frame.drewN _ _ _))).trans1 f8; have hbw : w.heap.size ≤ b' := (by rcases hb8 with h | h; exact (GN.out _ h).1; have := F0.out.size; rw [h]; simp; omega); have R8 := Lib.hid (And.intro sl8 (And.intro f8w hbw)); clear sl8 f8w f8 hb8 hbw)
        have hl8 : (zs ++ [c]).length = zs.length + 1 := by simp
        have WH := whole_dr (some ⟨b', 0, none⟩) cap' (zs ++ [c]) w8 (sl_dr R8.out.1 DN.out.2) (by rw [hl8]; omega)
        have D8 := (sl_dr R8.out.1 DN.out.2).dig
        rw [DN.out.1] at D8
        rw [DN.out.1, hl8] at WH
        have B8 := B9.out.frame R8.out.2.1 (fun hm => (GN.out b hm).2 rfl)
        have F8 := Lib.hid (F0.out.trans R8.out.2.1 (fun x hx => .inr (GN.out x hx).1))
        rw [hlz] at WH
        refine WH.mono ?_
        rintro e w8 ⟨rfl, rfl⟩
        have y0 := B8.at 0 rfl
        have y1 := B8.at 1 rfl
        have zf := B8.frozen
        have B5 := Lib.hid (putN B8 (.bool false) (.slice (some ⟨b', 0, none⟩) (digs (m + n)).length cap'))
        have KD := Lib.hid (KeepD.blk (show Frame [b] w8 _ from (Frame.setCell (S := [b]) w8 ⟨b, 0, none⟩ (.bool false) (by simp)).trans1 (Frame.setCell _ ⟨b, 1, none⟩ (.slice (some ⟨b', 0, none⟩) (digs (m + n)).length cap') (by simp))) B8 (by decide))
        have F5 := Lib.hid (putN_frame HB.out F8.out (.bool false) (.slice (some ⟨b', 0, none⟩) (digs (m + n)).length cap'))
        have D8h := Lib.hid D8
        clear B8 D8 WH
        go_wp2_with fail
        refine bodyPost_ret (results_cell_row rfl _ _ b 36 #[.bool false, .slice (some ⟨b', 0, none⟩) (digs (m + n)).length cap'] (0, 0) _ rfl B5.out Try.underlying36 rfl (by kernel_rfl)) rfl ?_
        exact ⟨_, rfl, ⟨_, _, rfl, D8h.out.kept KD.out⟩, F5.out⟩
end Go.Proofs.Ytbnhhmejlglbcaa

