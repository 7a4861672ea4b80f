/- nat.Mul. (printed by gen_nmul.py) -/
import Derived.Test.YtbnhhmejlglbcaaMg32
import Derived.Test.YtbnhhmejlglbcaaMg33
import Derived.IntWalk
namespace Go.Proofs.Ytbnhhmejlglbcaa
open Go.RowKit
set_option linter.unusedSimpArgs false
set_option linter.unusedVariables false

theorem valD_set {ws : List Int} {j : Nat} {o : Int} (h : ws[j]? = some o) (v : Int) : valD (ws.set j v) + BB ^ j * o.toNat = valD ws + BB ^ j * v.toNat := by
  obtain ⟨hj, e⟩ := List.getElem?_eq_some_iff.mp h
  have e1 : ws = ws.take j ++ o :: ws.drop (j + 1) := by rw [← e, List.getElem_cons_drop, List.take_append_drop]
  have e2 : ws.set j v = ws.take j ++ v :: ws.drop (j + 1) := List.set_eq_take_append_cons_drop .. |>.trans (by rw [if_pos hj])
  rw [e2]
  have e3 : valD ws = valD (ws.take j ++ o :: ws.drop (j + 1)) := congrArg valD e1
  rw [e3, valD_app, valD_app, List.length_take, Nat.min_eq_left (by omega)]
  simp only [valD, Nat.mul_add]
  omega
theorem DOk.set {ws : List Int} (h : DOk ws) (j : Nat) {v : Int} (hv : 0 ≤ v ∧ v < 4294967296) : DOk (ws.set j v) := fun d hd => by
  rcases List.mem_or_eq_of_mem_set hd with h1 | h1
  · exact h d h1
  · subst h1; exact hv
/-- A product so far: i digits of the one. -/
structure MulS (xs ys ws : List Int) (L i : Nat) : Prop where
  len : ws.length = L
  ok : DOk ws
  high : ∀ j x, i + ys.length ≤ j → ws[j]? = some x → x = 0
  val : valD ws = valD (xs.take i) * valD ys
/-- Within a row. -/
structure MulI (xs ys ws : List Int) (L i k : Nat) (d c : Int) : Prop where
  len : ws.length = L
  ok : DOk ws
  c0 : 0 ≤ c ∧ c < 4294967296
  high : ∀ j x, i + ys.length ≤ j → ws[j]? = some x → x = 0
  val : valD ws + BB ^ (i + k) * c.toNat = valD (xs.take i) * valD ys + BB ^ i * (d.toNat * valD (ys.take k))
theorem MulS.start (xs ys : List Int) (L : Nat) : MulS xs ys (List.replicate L 0) L 0 :=
  ⟨List.length_replicate, fun d h => by rw [List.eq_of_mem_replicate h]; omega, fun j x _ h => List.eq_of_mem_replicate (List.mem_of_getElem? h), by rw [valD_zeros (fun d h => List.eq_of_mem_replicate h)]; simp [valD]⟩
theorem MulS.row {xs ys ws : List Int} {L i : Nat} (h : MulS xs ys ws L i) (d : Int) : MulI xs ys ws L i 0 d 0 := ⟨h.len, h.ok, by omega, h.high, by simp [valD, h.val]⟩
theorem MulI.next {xs ys ws : List Int} {L i k : Nat} {d c f o : Int} (h : MulI xs ys ws L i k d c) (bd : 0 ≤ d ∧ d < 4294967296) (hf : ys[k]? = some f) (bf : 0 ≤ f ∧ f < 4294967296) (ho : ws[i + k]? = some o) (hmul : 0 ≤ d * f ∧ d * f ≤ 18446744065119617025) :
    MulI xs ys (ws.set (i + k) ((c + (d * f + o)) % 4294967296)) L i (k + 1) d ((c + (d * f + o)) / 4294967296) := by
  have hc := h.c0
  have bo := h.ok.at ho
  have hk := (List.getElem?_eq_some_iff.mp hf).1
  refine ⟨by rw [List.length_set]; exact h.len, h.ok.set _ (by omega), by omega, fun j x hj hx => ?_, ?_⟩
  · rw [List.getElem?_set_ne (by omega)] at hx
    exact h.high j x hj hx
  · have e1 := valD_set ho ((c + (d * f + o)) % 4294967296)
    have e2 := h.val
    have e3 : ((c + (d * f + o)) % 4294967296).toNat + BB * ((c + (d * f + o)) / 4294967296).toNat = c.toNat + d.toNat * f.toNat + o.toNat := by
      have e4 : ((d.toNat * f.toNat : Nat) : Int) = d * f := by rw [Int.natCast_mul, Int.toNat_of_nonneg bd.1, Int.toNat_of_nonneg bf.1]
      generalize d.toNat * f.toNat = q at *
      unfold BB
      omega
    rw [valD_take_next hf, ← Nat.add_assoc i k 1, Nat.pow_succ, Nat.mul_assoc (BB ^ (i + k)) BB]
    have e5 : BB ^ (i + k) * ((c + (d * f + o)) % 4294967296).toNat + BB ^ (i + k) * (BB * ((c + (d * f + o)) / 4294967296).toNat) = BB ^ (i + k) * c.toNat + BB ^ (i + k) * (d.toNat * f.toNat) + BB ^ (i + k) * o.toNat := by
      rw [← Nat.mul_add, e3, Nat.mul_add, Nat.mul_add]
    have e6 : BB ^ i * (d.toNat * (valD (ys.take k) + BB ^ k * f.toNat)) = BB ^ i * (d.toNat * valD (ys.take k)) + BB ^ (i + k) * (d.toNat * f.toNat) := by
      rw [Nat.mul_add, Nat.mul_add, Nat.pow_add, Nat.mul_assoc, Nat.mul_left_comm d.toNat]
    rw [e6]
    omega
theorem MulI.done {xs ys ws : List Int} {L i k : Nat} {d c : Int} (h : MulI xs ys ws L i k d c) (hk : k = ys.length) (hd : xs[i]? = some d) (hL : i + ys.length < L) : MulS xs ys (ws.set (i + k) c) L (i + 1) := by
  subst hk
  have hl : i + ys.length < ws.length := by rw [h.len]; exact hL
  have ho : ws[i + ys.length]? = some ws[i + ys.length] := List.getElem?_eq_getElem hl
  have h0 := h.high _ _ (Nat.le_refl _) ho
  rw [h0] at ho
  refine ⟨by rw [List.length_set]; exact h.len, h.ok.set _ h.c0, fun j x hj hx => ?_, ?_⟩
  · rw [List.getElem?_set_ne (by omega)] at hx
    exact h.high j x (by omega) hx
  · have e1 := valD_set ho c
    have e2 := h.val
    rw [List.take_length] at e2
    rw [valD_take_next hd, Nat.add_mul, Nat.mul_assoc]
    simp at e1
    omega
theorem made_u32 (n : Nat) : madeCells #[Value.int .u32 0] n = (List.replicate n (Value.int .u32 0)).toArray := by
  apply Array.ext
  · simp [madeCells]
  · intro i h1 h2
    simp [madeCells, Nat.mod_one]
set_option maxRecDepth 100000 in
theorem run_make_u32 (n : Nat) (w : World) (hn : n ≤ 1000000000) : (Instr.makeSlice 34 (.int .i64 n) (.int .i64 n)).run Try.prog w = .ok (.slice (some ⟨w.heap.size, 0, none⟩) n n) (w.alloc (.cells (List.replicate n (Value.int .u32 0)).toArray 77)) := by
  obtain ⟨i0, h2, h3, h4, h5⟩ := info_parts infoD
  have hm := run_make (P := Try.prog) w 34 77 i0 _ Try.underlying34 h2 h3 .i64 .i64 n n (by omega) (Int.le_refl _) (by rw [h5]; omega) (by omega)
  rw [h4, Nat.mul_one, show ((n : Int)).toNat = n from Int.toNat_natCast n] at hm
  rw [← made_u32]
  exact hm
theorem URow.new (w : World) (n : Nat) (hn : n ≤ 1000000000) : URow (w.alloc (.cells (List.replicate n (Value.int .u32 0)).toArray 77)) w.heap.size n (List.replicate n 0) := by
  refine RowAt.of_blk (Blk.new _ _ _) (by simp) (by unfold maxLen; omega) (by simp) ?_
  rw [List.take_of_length_le (by simp)]
  apply List.ext_getElem <;> simp
theorem mul_bound {d f : Int} (hd : 0 ≤ d ∧ d < 4294967296) (hf : 0 ≤ f ∧ f < 4294967296) : 0 ≤ d * f ∧ d * f ≤ 18446744065119617025 := by
  refine ⟨Int.mul_nonneg hd.1 hf.1, ?_⟩
  have := Int.mul_le_mul (show d ≤ 4294967295 by omega) (show f ≤ 4294967295 by omega) hf.1 (by omega)
  omega
theorem dr_zero (w : World) : DR w none 0 (digs 0) := by rw [digs_zero]; exact DR.nil _ _ (by unfold maxLen; omega)

set_option maxHeartbeats 4000000 in
set_option maxRecDepth 100000 in
theorem nmul_zl (a1 a2 : Option Addr) (c1 c2 m n : Nat) (w : World) (h1 : DR w a1 c1 (digs m)) (h2 : DR w a2 c2 (digs n)) (l1 : (digs m).length ≤ SZ) (l2 : (digs n).length ≤ SZ) (j : Bool) (hm : (digs m).length = 0) (hn : (digs n).length = (digs n).length) :
    Calls Try.prog 71 #[.agg #[.bool false, .slice a1 (digs m).length c1], .agg #[.bool j, .slice a2 (digs n).length c2]] w (NREnd (some 0) w) := by
  have H := Lib.hid (And.intro h1 h2)
  have WT := Lib.hid (fun w' (f : Frame [] w w') => whole_two a1 a2 c1 c2 m n w' (h1.frame f) (h2.frame f) l1 l2)
  obtain ⟨p, hp⟩ : ∃ p, (digs m).length = p := ⟨_, rfl⟩
  obtain ⟨q, hq⟩ : ∃ q, (digs n).length = q := ⟨_, rfl⟩
  rw [hp] at WT l1 hm ⊢
  rw [hq] at WT l2 hn ⊢
  have HP := Lib.hid hp
  have HQ := Lib.hid hq
  have hlp : p ≤ 100000000 := l1
  have hlq : q ≤ 100000000 := l2
  clear h1 h2 hp hq l1 l2
  have HM0 := Lib.hid hm
  have HN0 := Lib.hid hn
  clear hm hn
  go_enter Try.func71, Try.ntmps71
  go_upto_region 1 with fail
  obtain ⟨B0, B1, F⟩ := boxes2 w #[.bool false, .slice a1 p c1] #[.bool j, .slice a2 q c2]
  have B2 := Blk.new ((w.alloc (.cells #[.bool false, .slice a1 p c1] 36)).alloc (.cells #[.bool j, .slice a2 q c2] 36)) 36 #[.bool false, .slice none 0 0]
  have B0 := B0.alloc (.cells #[.bool false, .slice none 0 0] 36)
  have B1 := B1.alloc (.cells #[.bool false, .slice none 0 0] 36)
  have FF := Lib.hid (F.trans1 (Frame.alloc [] _ (.cells #[.bool false, .slice none 0 0] 36)))
  simp only [World.size_alloc] at B2
  clear F
  generalize ((w.alloc (.cells #[.bool false, .slice a1 p c1] 36)).alloc (.cells #[.bool j, .slice a2 q c2] 36)).alloc (.cells #[.bool false, .slice none 0 0] 36) = w1 at *
  have x0 := framed_cell (B0.at 0 rfl)
  have x1 := framed_cell (B1.at 0 rfl)
  have y0 := framed_cell (B0.at 1 rfl)
  have y1 := framed_cell (B1.at 1 rfl)
  have B2h := Lib.hid B2
  have B0h := Lib.hid B0
  have B1h := Lib.hid B1
  clear B0 B1 B2
  go_wp2_with fail
  refine wp_region_framed (by kernel_rfl) (by kernel_rfl) ?_
  repeat (go_big_quiet_step (exact framed_same (WT.out _ (FF.out.trans1 (FramedBy.h _)) _ _ _ (by simp))))
  refine wpQuiet_nil ?_
  intro w6 hw
  have f6 := framed_out hw
  clear hw
  clear x0 x1 y0 y1
  have x0 := (B0h.out.frame f6 (by simp)).at 0 rfl
  have x1 := (B1h.out.frame f6 (by simp)).at 0 rfl
  have F6 := Lib.hid (FF.out.trans1 f6)
  have B6 := Lib.hid (B2h.out.frame f6 (by simp))
  clear f6 FF WT B2h B0h B1h
  generalize hb : w.heap.size + 1 + 1 = b at *
  have HB : Hid (w.heap.size ≤ b) := by show _ ≤ _; omega
  have BLT : Hid (b < w6.heap.size) := B6.out.lt
  clear hb
  have hm := HM0.out
  have hn := HN0.out
  clear HM0 HN0
  subst hm
  clear hn
  have y0 := B6.out.at 0 rfl
  have y1 := B6.out.at 1 rfl
  have zf := B6.out.frozen
  have B5 := Lib.hid (putN B6.out (.bool false) (.slice none 0 0))
  have F5 := Lib.hid (putN_frame HB.out F6.out (.bool false) (.slice none 0 0))
  go_wp2_with fail
  refine bodyPost_ret (results_cell_row rfl _ _ b 36 #[.bool false, .slice none 0 0] (0, 0) _ rfl B5.out Try.underlying36 rfl (by kernel_rfl)) rfl ?_
  exact ⟨_, rfl, ⟨none, 0, by rw [digs_zero]; rfl, dr_zero _⟩, F5.out⟩
set_option maxHeartbeats 4000000 in
set_option maxRecDepth 100000 in
theorem nmul_zr_false (a1 a2 : Option Addr) (c1 c2 m n : Nat) (w : World) (h1 : DR w a1 c1 (digs m)) (h2 : DR w a2 c2 (digs n)) (l1 : (digs m).length ≤ SZ) (l2 : (digs n).length ≤ SZ) (hm : (digs m).length ≠ 0 ∨ false = true) (hn : (digs n).length = 0) :
    Calls Try.prog 71 #[.agg #[.bool false, .slice a1 (digs m).length c1], .agg #[.bool false, .slice a2 (digs n).length c2]] w (NREnd (some 0) w) := by
  have H := Lib.hid (And.intro h1 h2)
  have WT := Lib.hid (fun w' (f : Frame [] w w') => whole_two a1 a2 c1 c2 m n w' (h1.frame f) (h2.frame f) l1 l2)
  obtain ⟨p, hp⟩ : ∃ p, (digs m).length = p := ⟨_, rfl⟩
  obtain ⟨q, hq⟩ : ∃ q, (digs n).length = q := ⟨_, rfl⟩
  rw [hp] at WT l1 hm ⊢
  rw [hq] at WT l2 hn ⊢
  have HP := Lib.hid hp
  have HQ := Lib.hid hq
  have hlp : p ≤ 100000000 := l1
  have hlq : q ≤ 100000000 := l2
  clear h1 h2 hp hq l1 l2
  have HM0 := Lib.hid hm
  have HN0 := Lib.hid hn
  clear hm hn
  go_enter Try.func71, Try.ntmps71
  go_upto_region 1 with fail
  obtain ⟨B0, B1, F⟩ := boxes2 w #[.bool false, .slice a1 p c1] #[.bool false, .slice a2 q c2]
  have B2 := Blk.new ((w.alloc (.cells #[.bool false, .slice a1 p c1] 36)).alloc (.cells #[.bool false, .slice a2 q c2] 36)) 36 #[.bool false, .slice none 0 0]
  have B0 := B0.alloc (.cells #[.bool false, .slice none 0 0] 36)
  have B1 := B1.alloc (.cells #[.bool false, .slice none 0 0] 36)
  have FF := Lib.hid (F.trans1 (Frame.alloc [] _ (.cells #[.bool false, .slice none 0 0] 36)))
  simp only [World.size_alloc] at B2
  clear F
  generalize ((w.alloc (.cells #[.bool false, .slice a1 p c1] 36)).alloc (.cells #[.bool false, .slice a2 q c2] 36)).alloc (.cells #[.bool false, .slice none 0 0] 36) = w1 at *
  have x0 := framed_cell (B0.at 0 rfl)
  have x1 := framed_cell (B1.at 0 rfl)
  have y0 := framed_cell (B0.at 1 rfl)
  have y1 := framed_cell (B1.at 1 rfl)
  have B2h := Lib.hid B2
  have B0h := Lib.hid B0
  have B1h := Lib.hid B1
  clear B0 B1 B2
  go_wp2_with fail
  refine wp_region_framed (by kernel_rfl) (by kernel_rfl) ?_
  repeat (go_big_quiet_step (exact framed_same (WT.out _ (FF.out.trans1 (FramedBy.h _)) _ _ _ (by simp))))
  refine wpQuiet_nil ?_
  intro w6 hw
  have f6 := framed_out hw
  clear hw
  clear x0 x1 y0 y1
  have x0 := (B0h.out.frame f6 (by simp)).at 0 rfl
  have x1 := (B1h.out.frame f6 (by simp)).at 0 rfl
  have F6 := Lib.hid (FF.out.trans1 f6)
  have B6 := Lib.hid (B2h.out.frame f6 (by simp))
  clear f6 FF WT B2h B0h B1h
  generalize hb : w.heap.size + 1 + 1 = b at *
  have HB : Hid (w.heap.size ≤ b) := by show _ ≤ _; omega
  have BLT : Hid (b < w6.heap.size) := B6.out.lt
  clear hb
  have hm := HM0.out
  have hn := HN0.out
  clear HM0 HN0
  subst hn
  have hpz : ((p : Int) == 0) = false := by have : p ≠ 0 := by simpa using hm
                                            simp; omega
  clear hm
  have y0 := B6.out.at 0 rfl
  have y1 := B6.out.at 1 rfl
  have zf := B6.out.frozen
  have B5 := Lib.hid (putN B6.out (.bool false) (.slice none 0 0))
  have F5 := Lib.hid (putN_frame HB.out F6.out (.bool false) (.slice none 0 0))
  go_wp2_with fail
  refine bodyPost_ret (results_cell_row rfl _ _ b 36 #[.bool false, .slice none 0 0] (0, 0) _ rfl B5.out Try.underlying36 rfl (by kernel_rfl)) rfl ?_
  exact ⟨_, rfl, ⟨none, 0, by rw [digs_zero]; rfl, dr_zero _⟩, F5.out⟩
set_option maxHeartbeats 4000000 in
set_option maxRecDepth 100000 in
theorem nmul_zr_true (a1 a2 : Option Addr) (c1 c2 m n : Nat) (w : World) (h1 : DR w a1 c1 (digs m)) (h2 : DR w a2 c2 (digs n)) (l1 : (digs m).length ≤ SZ) (l2 : (digs n).length ≤ SZ) (hm : (digs m).length ≠ 0 ∨ true = true) (hn : (digs n).length = 0) :
    Calls Try.prog 71 #[.agg #[.bool true, .slice a1 (digs m).length c1], .agg #[.bool false, .slice a2 (digs n).length c2]] w (NREnd (some 0) w) := by
  have H := Lib.hid (And.intro h1 h2)
  have WT := Lib.hid (fun w' (f : Frame [] w w') => whole_two a1 a2 c1 c2 m n w' (h1.frame f) (h2.frame f) l1 l2)
  obtain ⟨p, hp⟩ : ∃ p, (digs m).length = p := ⟨_, rfl⟩
  obtain ⟨q, hq⟩ : ∃ q, (digs n).length = q := ⟨_, rfl⟩
  rw [hp] at WT l1 hm ⊢
  rw [hq] at WT l2 hn ⊢
  have HP := Lib.hid hp
  have HQ := Lib.hid hq
  have hlp : p ≤ 100000000 := l1
  have hlq : q ≤ 100000000 := l2
  clear h1 h2 hp hq l1 l2
  have HM0 := Lib.hid hm
  have HN0 := Lib.hid hn
  clear hm hn
  go_enter Try.func71, Try.ntmps71
  go_upto_region 1 with fail
  obtain ⟨B0, B1, F⟩ := boxes2 w #[.bool true, .slice a1 p c1] #[.bool false, .slice a2 q c2]
  have B2 := Blk.new ((w.alloc (.cells #[.bool true, .slice a1 p c1] 36)).alloc (.cells #[.bool false, .slice a2 q c2] 36)) 36 #[.bool false, .slice none 0 0]
  have B0 := B0.alloc (.cells #[.bool false, .slice none 0 0] 36)
  have B1 := B1.alloc (.cells #[.bool false, .slice none 0 0] 36)
  have FF := Lib.hid (F.trans1 (Frame.alloc [] _ (.cells #[.bool false, .slice none 0 0] 36)))
  simp only [World.size_alloc] at B2
  clear F
  generalize ((w.alloc (.cells #[.bool true, .slice a1 p c1] 36)).alloc (.cells #[.bool false, .slice a2 q c2] 36)).alloc (.cells #[.bool false, .slice none 0 0] 36) = w1 at *
  have x0 := framed_cell (B0.at 0 rfl)
  have x1 := framed_cell (B1.at 0 rfl)
  have y0 := framed_cell (B0.at 1 rfl)
  have y1 := framed_cell (B1.at 1 rfl)
  have B2h := Lib.hid B2
  have B0h := Lib.hid B0
  have B1h := Lib.hid B1
  clear B0 B1 B2
  go_wp2_with fail
  refine wp_region_framed (by kernel_rfl) (by kernel_rfl) ?_
  repeat (go_big_quiet_step (exact framed_same (WT.out _ (FF.out.trans1 (FramedBy.h _)) _ _ _ (by simp))))
  refine wpQuiet_nil ?_
  intro w6 hw
  have f6 := framed_out hw
  clear hw
  clear x0 x1 y0 y1
  have x0 := (B0h.out.frame f6 (by simp)).at 0 rfl
  have x1 := (B1h.out.frame f6 (by simp)).at 0 rfl
  have F6 := Lib.hid (FF.out.trans1 f6)
  have B6 := Lib.hid (B2h.out.frame f6 (by simp))
  clear f6 FF WT B2h B0h B1h
  generalize hb : w.heap.size + 1 + 1 = b at *
  have HB : Hid (w.heap.size ≤ b) := by show _ ≤ _; omega
  have BLT : Hid (b < w6.heap.size) := B6.out.lt
  clear hb
  have hm := HM0.out
  have hn := HN0.out
  clear HM0 HN0
  subst hn
  clear hm
  have y0 := B6.out.at 0 rfl
  have y1 := B6.out.at 1 rfl
  have zf := B6.out.frozen
  have B5 := Lib.hid (putN B6.out (.bool false) (.slice none 0 0))
  have F5 := Lib.hid (putN_frame HB.out F6.out (.bool false) (.slice none 0 0))
  go_wp2_with fail
  refine bodyPost_ret (results_cell_row rfl _ _ b 36 #[.bool false, .slice none 0 0] (0, 0) _ rfl B5.out Try.underlying36 rfl (by kernel_rfl)) rfl ?_
  exact ⟨_, rfl, ⟨none, 0, by rw [digs_zero]; rfl, dr_zero _⟩, F5.out⟩
set_option maxHeartbeats 4000000 in
set_option maxRecDepth 100000 in
theorem nmul_inf_false_true (a1 a2 : Option Addr) (c1 c2 m n : Nat) (w : World) (h1 : DR w a1 c1 (digs m)) (h2 : DR w a2 c2 (digs n)) (l1 : (digs m).length ≤ SZ) (l2 : (digs n).length ≤ SZ) (hm : (digs m).length ≠ 0 ∨ false = true) (hn : (digs n).length ≠ 0 ∨ true = true) :
    Calls Try.prog 71 #[.agg #[.bool false, .slice a1 (digs m).length c1], .agg #[.bool true, .slice a2 (digs n).length c2]] w (NREnd (none) w) := by
  have H := Lib.hid (And.intro h1 h2)
  have WT := Lib.hid (fun w' (f : Frame [] w w') => whole_two a1 a2 c1 c2 m n w' (h1.frame f) (h2.frame f) l1 l2)
  obtain ⟨p, hp⟩ : ∃ p, (digs m).length = p := ⟨_, rfl⟩
  obtain ⟨q, hq⟩ : ∃ q, (digs n).length = q := ⟨_, rfl⟩
  rw [hp] at WT l1 hm ⊢
  rw [hq] at WT l2 hn ⊢
  have HP := Lib.hid hp
  have HQ := Lib.hid hq
  have hlp : p ≤ 100000000 := l1
  have hlq : q ≤ 100000000 := l2
  clear h1 h2 hp hq l1 l2
  have HM0 := Lib.hid hm
  have HN0 := Lib.hid hn
  clear hm hn
  go_enter Try.func71, Try.ntmps71
  go_upto_region 1 with fail
  obtain ⟨B0, B1, F⟩ := boxes2 w #[.bool false, .slice a1 p c1] #[.bool true, .slice a2 q c2]
  have B2 := Blk.new ((w.alloc (.cells #[.bool false, .slice a1 p c1] 36)).alloc (.cells #[.bool true, .slice a2 q c2] 36)) 36 #[.bool false, .slice none 0 0]
  have B0 := B0.alloc (.cells #[.bool false, .slice none 0 0] 36)
  have B1 := B1.alloc (.cells #[.bool false, .slice none 0 0] 36)
  have FF := Lib.hid (F.trans1 (Frame.alloc [] _ (.cells #[.bool false, .slice none 0 0] 36)))
  simp only [World.size_alloc] at B2
  clear F
  generalize ((w.alloc (.cells #[.bool false, .slice a1 p c1] 36)).alloc (.cells #[.bool true, .slice a2 q c2] 36)).alloc (.cells #[.bool false, .slice none 0 0] 36) = w1 at *
  have x0 := framed_cell (B0.at 0 rfl)
  have x1 := framed_cell (B1.at 0 rfl)
  have y0 := framed_cell (B0.at 1 rfl)
  have y1 := framed_cell (B1.at 1 rfl)
  have B2h := Lib.hid B2
  have B0h := Lib.hid B0
  have B1h := Lib.hid B1
  clear B0 B1 B2
  go_wp2_with fail
  refine wp_region_framed (by kernel_rfl) (by kernel_rfl) ?_
  repeat (go_big_quiet_step (exact framed_same (WT.out _ (FF.out.trans1 (FramedBy.h _)) _ _ _ (by simp))))
  refine wpQuiet_nil ?_
  intro w6 hw
  have f6 := framed_out hw
  clear hw
  clear x0 x1 y0 y1
  have x0 := (B0h.out.frame f6 (by simp)).at 0 rfl
  have x1 := (B1h.out.frame f6 (by simp)).at 0 rfl
  have F6 := Lib.hid (FF.out.trans1 f6)
  have B6 := Lib.hid (B2h.out.frame f6 (by simp))
  clear f6 FF WT B2h B0h B1h
  generalize hb : w.heap.size + 1 + 1 = b at *
  have HB : Hid (w.heap.size ≤ b) := by show _ ≤ _; omega
  have BLT : Hid (b < w6.heap.size) := B6.out.lt
  clear hb
  have hm := HM0.out
  have hn := HN0.out
  clear HM0 HN0
  have hpz : ((p : Int) == 0) = false := by have : p ≠ 0 := by simpa using hm
                                            simp; omega
  clear hm hn
  go_wp2_with fail
  refine (natInf_any _).mono ?_
  rintro e w7 ⟨rfl, f7⟩
  have B7 := Lib.hid (B6.out.frame f7 (by simp))
  have F7 := Lib.hid (F6.out.trans1 f7)
  clear f7 x0 x1
  have y0 := B7.out.at 0 rfl
  have y1 := B7.out.at 1 rfl
  have zf := B7.out.frozen
  have B5 := Lib.hid (putN B7.out (.bool true) (.slice none 0 0))
  have F5 := Lib.hid (putN_frame HB.out F7.out (.bool true) (.slice none 0 0))
  go_wp2_with fail
  refine bodyPost_ret (results_cell_row rfl _ _ b 36 #[.bool true, .slice none 0 0] (0, 0) _ rfl B5.out Try.underlying36 rfl (by kernel_rfl)) rfl ?_
  exact ⟨_, rfl, rfl, F5.out⟩
set_option maxHeartbeats 4000000 in
set_option maxRecDepth 100000 in
theorem nmul_inf_true_false (a1 a2 : Option Addr) (c1 c2 m n : Nat) (w : World) (h1 : DR w a1 c1 (digs m)) (h2 : DR w a2 c2 (digs n)) (l1 : (digs m).length ≤ SZ) (l2 : (digs n).length ≤ SZ) (hm : (digs m).length ≠ 0 ∨ true = true) (hn : (digs n).length ≠ 0 ∨ false = true) :
    Calls Try.prog 71 #[.agg #[.bool true, .slice a1 (digs m).length c1], .agg #[.bool false, .slice a2 (digs n).length c2]] w (NREnd (none) w) := by
  have H := Lib.hid (And.intro h1 h2)
  have WT := Lib.hid (fun w' (f : Frame [] w w') => whole_two a1 a2 c1 c2 m n w' (h1.frame f) (h2.frame f) l1 l2)
  obtain ⟨p, hp⟩ : ∃ p, (digs m).length = p := ⟨_, rfl⟩
  obtain ⟨q, hq⟩ : ∃ q, (digs n).length = q := ⟨_, rfl⟩
  rw [hp] at WT l1 hm ⊢
  rw [hq] at WT l2 hn ⊢
  have HP := Lib.hid hp
  have HQ := Lib.hid hq
  have hlp : p ≤ 100000000 := l1
  have hlq : q ≤ 100000000 := l2
  clear h1 h2 hp hq l1 l2
  have HM0 := Lib.hid hm
  have HN0 := Lib.hid hn
  clear hm hn
  go_enter Try.func71, Try.ntmps71
  go_upto_region 1 with fail
  obtain ⟨B0, B1, F⟩ := boxes2 w #[.bool true, .slice a1 p c1] #[.bool false, .slice a2 q c2]
  have B2 := Blk.new ((w.alloc (.cells #[.bool true, .slice a1 p c1] 36)).alloc (.cells #[.bool false, .slice a2 q c2] 36)) 36 #[.bool false, .slice none 0 0]
  have B0 := B0.alloc (.cells #[.bool false, .slice none 0 0] 36)
  have B1 := B1.alloc (.cells #[.bool false, .slice none 0 0] 36)
  have FF := Lib.hid (F.trans1 (Frame.alloc [] _ (.cells #[.bool false, .slice none 0 0] 36)))
  simp only [World.size_alloc] at B2
  clear F
  generalize ((w.alloc (.cells #[.bool true, .slice a1 p c1] 36)).alloc (.cells #[.bool false, .slice a2 q c2] 36)).alloc (.cells #[.bool false, .slice none 0 0] 36) = w1 at *
  have x0 := framed_cell (B0.at 0 rfl)
  have x1 := framed_cell (B1.at 0 rfl)
  have y0 := framed_cell (B0.at 1 rfl)
  have y1 := framed_cell (B1.at 1 rfl)
  have B2h := Lib.hid B2
  have B0h := Lib.hid B0
  have B1h := Lib.hid B1
  clear B0 B1 B2
  go_wp2_with fail
  refine wp_region_framed (by kernel_rfl) (by kernel_rfl) ?_
  repeat (go_big_quiet_step (exact framed_same (WT.out _ (FF.out.trans1 (FramedBy.h _)) _ _ _ (by simp))))
  refine wpQuiet_nil ?_
  intro w6 hw
  have f6 := framed_out hw
  clear hw
  clear x0 x1 y0 y1
  have x0 := (B0h.out.frame f6 (by simp)).at 0 rfl
  have x1 := (B1h.out.frame f6 (by simp)).at 0 rfl
  have F6 := Lib.hid (FF.out.trans1 f6)
  have B6 := Lib.hid (B2h.out.frame f6 (by simp))
  clear f6 FF WT B2h B0h B1h
  generalize hb : w.heap.size + 1 + 1 = b at *
  have HB : Hid (w.heap.size ≤ b) := by show _ ≤ _; omega
  have BLT : Hid (b < w6.heap.size) := B6.out.lt
  clear hb
  have hm := HM0.out
  have hn := HN0.out
  clear HM0 HN0
  have hqz : ((q : Int) == 0) = false := by have : q ≠ 0 := by simpa using hn
                                            simp; omega
  clear hm hn
  go_wp2_with fail
  refine (natInf_any _).mono ?_
  rintro e w7 ⟨rfl, f7⟩
  have B7 := Lib.hid (B6.out.frame f7 (by simp))
  have F7 := Lib.hid (F6.out.trans1 f7)
  clear f7 x0 x1
  have y0 := B7.out.at 0 rfl
  have y1 := B7.out.at 1 rfl
  have zf := B7.out.frozen
  have B5 := Lib.hid (putN B7.out (.bool true) (.slice none 0 0))
  have F5 := Lib.hid (putN_frame HB.out F7.out (.bool true) (.slice none 0 0))
  go_wp2_with fail
  refine bodyPost_ret (results_cell_row rfl _ _ b 36 #[.bool true, .slice none 0 0] (0, 0) _ rfl B5.out Try.underlying36 rfl (by kernel_rfl)) rfl ?_
  exact ⟨_, rfl, rfl, F5.out⟩
set_option maxHeartbeats 4000000 in
set_option maxRecDepth 100000 in
theorem nmul_inf_true_true (a1 a2 : Option Addr) (c1 c2 m n : Nat) (w : World) (h1 : DR w a1 c1 (digs m)) (h2 : DR w a2 c2 (digs n)) (l1 : (digs m).length ≤ SZ) (l2 : (digs n).length ≤ SZ) (hm : (digs m).length ≠ 0 ∨ true = true) (hn : (digs n).length ≠ 0 ∨ true = true) :
    Calls Try.prog 71 #[.agg #[.bool true, .slice a1 (digs m).length c1], .agg #[.bool true, .slice a2 (digs n).length c2]] w (NREnd (none) w) := by
  have H := Lib.hid (And.intro h1 h2)
  have WT := Lib.hid (fun w' (f : Frame [] w w') => whole_two a1 a2 c1 c2 m n w' (h1.frame f) (h2.frame f) l1 l2)
  obtain ⟨p, hp⟩ : ∃ p, (digs m).length = p := ⟨_, rfl⟩
  obtain ⟨q, hq⟩ : ∃ q, (digs n).length = q := ⟨_, rfl⟩
  rw [hp] at WT l1 hm ⊢
  rw [hq] at WT l2 hn ⊢
  have HP := Lib.hid hp
  have HQ := Lib.hid hq
  have hlp : p ≤ 100000000 := l1
  have hlq : q ≤ 100000000 := l2
  clear h1 h2 hp hq l1 l2
  have HM0 := Lib.hid hm
  have HN0 := Lib.hid hn
  clear hm hn
  go_enter Try.func71, Try.ntmps71
  go_upto_region 1 with fail
  obtain ⟨B0, B1, F⟩ := boxes2 w #[.bool true, .slice a1 p c1] #[.bool true, .slice a2 q c2]
  have B2 := Blk.new ((w.alloc (.cells #[.bool true, .slice a1 p c1] 36)).alloc (.cells #[.bool true, .slice a2 q c2] 36)) 36 #[.bool false, .slice none 0 0]
  have B0 := B0.alloc (.cells #[.bool false, .slice none 0 0] 36)
  have B1 := B1.alloc (.cells #[.bool false, .slice none 0 0] 36)
  have FF := Lib.hid (F.trans1 (Frame.alloc [] _ (.cells #[.bool false, .slice none 0 0] 36)))
  simp only [World.size_alloc] at B2
  clear F
  generalize ((w.alloc (.cells #[.bool true, .slice a1 p c1] 36)).alloc (.cells #[.bool true, .slice a2 q c2] 36)).alloc (.cells #[.bool false, .slice none 0 0] 36) = w1 at *
  have x0 := framed_cell (B0.at 0 rfl)
  have x1 := framed_cell (B1.at 0 rfl)
  have y0 := framed_cell (B0.at 1 rfl)
  have y1 := framed_cell (B1.at 1 rfl)
  have B2h := Lib.hid B2
  have B0h := Lib.hid B0
  have B1h := Lib.hid B1
  clear B0 B1 B2
  go_wp2_with fail
  refine wp_region_framed (by kernel_rfl) (by kernel_rfl) ?_
  repeat (go_big_quiet_step (exact framed_same (WT.out _ (FF.out.trans1 (FramedBy.h _)) _ _ _ (by simp))))
  refine wpQuiet_nil ?_
  intro w6 hw
  have f6 := framed_out hw
  clear hw
  clear x0 x1 y0 y1
  have x0 := (B0h.out.frame f6 (by simp)).at 0 rfl
  have x1 := (B1h.out.frame f6 (by simp)).at 0 rfl
  have F6 := Lib.hid (FF.out.trans1 f6)
  have B6 := Lib.hid (B2h.out.frame f6 (by simp))
  clear f6 FF WT B2h B0h B1h
  generalize hb : w.heap.size + 1 + 1 = b at *
  have HB : Hid (w.heap.size ≤ b) := by show _ ≤ _; omega
  have BLT : Hid (b < w6.heap.size) := B6.out.lt
  clear hb
  have hm := HM0.out
  have hn := HN0.out
  clear HM0 HN0
  clear hm hn
  go_wp2_with fail
  refine (natInf_any _).mono ?_
  rintro e w7 ⟨rfl, f7⟩
  have B7 := Lib.hid (B6.out.frame f7 (by simp))
  have F7 := Lib.hid (F6.out.trans1 f7)
  clear f7 x0 x1
  have y0 := B7.out.at 0 rfl
  have y1 := B7.out.at 1 rfl
  have zf := B7.out.frozen
  have B5 := Lib.hid (putN B7.out (.bool true) (.slice none 0 0))
  have F5 := Lib.hid (putN_frame HB.out F7.out (.bool true) (.slice none 0 0))
  go_wp2_with fail
  refine bodyPost_ret (results_cell_row rfl _ _ b 36 #[.bool true, .slice none 0 0] (0, 0) _ rfl B5.out Try.underlying36 rfl (by kernel_rfl)) rfl ?_
  exact ⟨_, rfl, rfl, F5.out⟩
set_option maxHeartbeats 4000000 in
set_option maxRecDepth 100000 in
theorem nmul_fin (a1 a2 : Option Addr) (c1 c2 m n : Nat) (w : World) (h1 : DR w a1 c1 (digs m)) (h2 : DR w a2 c2 (digs n)) (l1 : (digs m).length ≤ SZ) (l2 : (digs n).length ≤ SZ) (hm : (digs m).length ≠ 0) (hn : (digs n).length ≠ 0) :
    Calls Try.prog 71 #[.agg #[.bool false, .slice a1 (digs m).length c1], .agg #[.bool false, .slice a2 (digs n).length c2]] w (NREnd (some (m * n)) w) := by
  have H := Lib.hid (And.intro h1 h2)
  have WT := Lib.hid (fun w' (f : Frame [] w w') => whole_two a1 a2 c1 c2 m n w' (h1.frame f) (h2.frame f) l1 l2)
  obtain ⟨p, hp⟩ : ∃ p, (digs m).length = p := ⟨_, rfl⟩
  obtain ⟨q, hq⟩ : ∃ q, (digs n).length = q := ⟨_, rfl⟩
  rw [hp] at WT l1 hm ⊢
  rw [hq] at WT l2 hn ⊢
  have HP := Lib.hid hp
  have HQ := Lib.hid hq
  have hlp : p ≤ 100000000 := l1
  have hlq : q ≤ 100000000 := l2
  clear h1 h2 hp hq l1 l2
  have HM0 := Lib.hid hm
  have HN0 := Lib.hid hn
  clear hm hn
  go_enter Try.func71, Try.ntmps71
  go_upto_region 1 with fail
  obtain ⟨B0, B1, F⟩ := boxes2 w #[.bool false, .slice a1 p c1] #[.bool false, .slice a2 q c2]
  have B2 := Blk.new ((w.alloc (.cells #[.bool false, .slice a1 p c1] 36)).alloc (.cells #[.bool false, .slice a2 q c2] 36)) 36 #[.bool false, .slice none 0 0]
  have B0 := B0.alloc (.cells #[.bool false, .slice none 0 0] 36)
  have B1 := B1.alloc (.cells #[.bool false, .slice none 0 0] 36)
  have FF := Lib.hid (F.trans1 (Frame.alloc [] _ (.cells #[.bool false, .slice none 0 0] 36)))
  simp only [World.size_alloc] at B2
  clear F
  generalize ((w.alloc (.cells #[.bool false, .slice a1 p c1] 36)).alloc (.cells #[.bool false, .slice a2 q c2] 36)).alloc (.cells #[.bool false, .slice none 0 0] 36) = w1 at *
  have x0 := framed_cell (B0.at 0 rfl)
  have x1 := framed_cell (B1.at 0 rfl)
  have y0 := framed_cell (B0.at 1 rfl)
  have y1 := framed_cell (B1.at 1 rfl)
  have B2h := Lib.hid B2
  have B0h := Lib.hid B0
  have B1h := Lib.hid B1
  clear B0 B1 B2
  go_wp2_with fail
  refine wp_region_framed (by kernel_rfl) (by kernel_rfl) ?_
  repeat (go_big_quiet_step (exact framed_same (WT.out _ (FF.out.trans1 (FramedBy.h _)) _ _ _ (by simp))))
  refine wpQuiet_nil ?_
  intro w6 hw
  have f6 := framed_out hw
  clear hw
  clear x0 x1 y0 y1
  have x0 := (B0h.out.frame f6 (by simp)).at 0 rfl
  have x1 := (B1h.out.frame f6 (by simp)).at 0 rfl
  have F6 := Lib.hid (FF.out.trans1 f6)
  have B6 := Lib.hid (B2h.out.frame f6 (by simp))
  clear f6 FF WT B2h B0h B1h
  generalize hb : w.heap.size + 1 + 1 = b at *
  have HB : Hid (w.heap.size ≤ b) := by show _ ≤ _; omega
  have BLT : Hid (b < w6.heap.size) := B6.out.lt
  clear hb
  have hm := HM0.out
  have hn := HN0.out
  clear HM0 HN0
  have hpz : ((p : Int) == 0) = false := by simp; omega
  have hqz : ((q : Int) == 0) = false := by simp; omega
  have hmk := run_make_u32 (p + q) w6 (by omega)
  rw [show ((p + q : Nat) : Int) = (p : Int) + q from by omega] at hmk
  have hU := URow.new w6 (p + q) (by omega)
  have fU : Frame [] w6 (w6.alloc (.cells (List.replicate (p + q) (Value.int .u32 0)).toArray 77)) := Frame.alloc _ _ _
  have HD1 := Lib.hid (H.out.1.frame F6.out)
  have HD2 := Lib.hid (H.out.2.frame F6.out)
  have HM : Hid (valD (digs m) = m ∧ valD (digs n) = n) := ⟨valD_digs m, valD_digs n⟩
  have HOK := Lib.hid (And.intro (digs_ok m) (digs_ok n))
  generalize digs m = xs at *
  generalize digs n = ys at *
  rw [List.toArray_replicate] at hU fU
  have S7 := Lib.hid (And.intro hU fU)
  have wpq : IntKind.i64.wrap ((p : Int) + q) = (p : Int) + q := IntWalk.i64_in _ (by omega)
  clear hU fU H
  go_wp2_with fail
  have B7 : Hid (Blk (w6.alloc (.cells (Array.replicate (p + q) (Value.int .u32 0)) 77)) b 36 #[.bool false, .slice none 0 0]) := B6.out.alloc _
  generalize w6.alloc (.cells (Array.replicate (p + q) (Value.int .u32 0)) 77) = w7 at *
  obtain ⟨bo, hbo⟩ : ∃ bo, w6.heap.size = bo := ⟨_, rfl⟩
  rw [hbo] at S7 ⊢
  have HBO := Lib.hid hbo
  clear hbo x0 x1 hmk wpq
  go_loopw [8, 9, 10, 11, 12, 53] (fun _ _ _ _ _ iv wr => ∃ (i : Nat) (ws : List Int), i ≤ p ∧ iv = .int .i64 i ∧ Hid (MulS xs ys ws (p + q) i ∧ URow wr bo (p + q) ws ∧ Frame [bo] w7 wr)) (fun _ _ _ _ _ iv _ => (p - intOf iv).toNat)
  case atStart => exact ⟨0, List.replicate (p + q) 0, Nat.zero_le _, rfl, Lib.hid ⟨MulS.start xs ys _, S7.out.1, Frame.refl _ _⟩⟩
  case round =>
    rename World => wr
    obtain ⟨i, ws, hi, rfl, hR⟩ := hrel
    have dl : decide ((i : Int) < p) = decide (i < p) := by by_cases h : i < p <;> simp [h] <;> omega
    by_cases hil : i < p
    · have hx : xs[i]? = some (xs[i]'(by rw [HP.out]; omega)) := List.getElem?_eq_getElem _
      generalize xs[i]'(by rw [HP.out]; omega) = d at hx
      obtain ⟨b1, o1, rfl, z1⟩ := HD1.out.cell hx
      have n1 : b1 ∉ [bo] := by
        have h1 : b1 < _ := World.block_lt_of_cell? _ _ z1
        have := HBO.out
        simp only [List.mem_singleton]
        omega
      have z1 := hR.out.2.2.cell (S7.out.2.cell z1 (by simp)) n1
      have bd := HOK.out.1.at hx
      have HXi := Lib.hid hx
      have R0 := Lib.hid (show MulI xs ys ws (p + q) i 0 d 0 ∧ URow wr bo (p + q) ws ∧ Frame [bo] w7 wr from ⟨hR.out.1.row d, hR.out.2⟩)
      clear hx n1 hR
      go_wp2_with fail
      clear z1
      go_loopw [10, 11, 12, 60] (fun cv _ _ kv wq => ∃ (k : Nat) (ws : List Int) (c : Int), k ≤ q ∧ cv = .int .u64 c ∧ kv = .int .i64 k ∧ Hid (MulI xs ys ws (p + q) i k d c ∧ URow wq bo (p + q) ws ∧ Frame [bo] w7 wq)) (fun _ _ _ kv _ => (q - intOf kv).toNat)
      case atStart => exact ⟨0, ws, 0, Nat.zero_le _, rfl, rfl, R0⟩
      case round =>
        rename World => wq
        clear R0
        obtain ⟨k, ws, c, hk, rfl, rfl, hR⟩ := hrel
        have hws := hR.out.1.len
        by_cases hkl : k < q
        · have hy : ys[k]? = some (ys[k]'(by rw [HQ.out]; omega)) := List.getElem?_eq_getElem _
          generalize ys[k]'(by rw [HQ.out]; omega) = f at hy
          have ho : ws[i + k]? = some (ws[i + k]'(by omega)) := List.getElem?_eq_getElem _
          generalize ws[i + k]'(by omega) = o at ho
          obtain ⟨b2, o2, rfl, z2⟩ := HD2.out.cell hy
          have n2 : b2 ∉ [bo] := by
            have h1 : b2 < _ := World.block_lt_of_cell? _ _ z2
            have := HBO.out
            simp only [List.mem_singleton]
            omega
          have z2 := hR.out.2.2.cell (S7.out.2.cell z2 (by simp)) n2
          have r0 := hR.out.2.1.cell ho
          have r1 := hR.out.2.1.frozen (i + k)
          have bf := HOK.out.2.at hy
          have bo' := hR.out.1.ok.at ho
          have hc := hR.out.1.c0
          have hm := mul_bound bd bf
          have NX := Lib.hid (hR.out.1.next bd hy bf ho hm)
          have PU := Lib.hid (hR.out.2.1.put (k := i + k) (by omega) ((c + (d * f + o)) % 4294967296))
          have HF := Lib.hid hR.out.2.2
          have SLn : Hid ((ws.set (i + k) ((c + (d * f + o)) % 4294967296)).length = p + q) := by show _ = _; rw [List.length_set]; exact hws
          clear hy ho n2 hR
          have w1 : IntKind.u64.wrap (d * f) = (d * f) := IntWalk.u64_in _ (by omega)
          have w2 : IntKind.u64.wrap ((d * f) + o) = (d * f) + o := IntWalk.u64_in _ (by omega)
          have w3 : IntKind.u64.wrap (c + ((d * f) + o)) = c + ((d * f) + o) := IntWalk.u64_in _ (by omega)
          have w4 : IntKind.u32.wrap (c + ((d * f) + o)) = (c + ((d * f) + o)) % 4294967296 := IntKind.wrap_u32 _
          have w5 : IntKind.i64.wrap ((i : Int) + k) = (i : Int) + k := IntWalk.i64_in _ (by omega)
          have b1 : (i : Int) + k < (p : Int) + q := by omega
          have b2 : i + k < p + q := by omega
          go_wp2_with fail
          go_roundw
          case rel => exact ⟨k + 1, _, _, by omega, by first | trivial | rfl, by first | trivial | rfl | go_num, Lib.hid ⟨NX.out, PU.out, HF.out.trans1 (Frame.setCell _ _ _ (by simp))⟩⟩
          case measure => first | (simp [intOf]; done) | (simp [intOf]; omega)
        · obtain rfl : k = q := by omega
          have ho : ws[i + k]? = some (ws[i + k]'(by omega)) := List.getElem?_eq_getElem _
          have hc := hR.out.1.c0
          have r1 := hR.out.2.1.frozen (i + k)
          have r0 := hR.out.2.1.cell ho
          have NX := Lib.hid (hR.out.1.done HQ.out.symm HXi.out (by rw [HQ.out]; omega))
          have PU := Lib.hid (hR.out.2.1.put (k := i + k) (by omega) c)
          have HF := Lib.hid hR.out.2.2
          clear ho hR
          have w4 : IntKind.u32.wrap c = c := IntWalk.u32_in _ (by omega)
          have w5 : IntKind.i64.wrap ((i : Int) + k) = (i : Int) + k := IntWalk.i64_in _ (by omega)
          have b1 : (i : Int) + k < (p : Int) + k := by omega
          have b2 : i + k < p + k := by omega
          go_wp2_with fail
          go_roundw
          case rel => exact ⟨i + 1, _, by omega, by first | trivial | rfl | go_num, Lib.hid ⟨NX.out, PU.out, HF.out.trans1 (Frame.setCell _ _ _ (by simp))⟩⟩
          case measure => first | (simp [intOf]; done) | (simp [intOf]; omega)
    · obtain rfl : i = p := by omega
      have hv := hR.out.1.val
      rw [List.take_of_length_le (by rw [HP.out]; omega), HM.out.1, HM.out.2] at hv
      have hln := hR.out.1.len
      have hU := hR.out.2.1.dr hR.out.1.ok
      have WH := whole_dr _ _ ws wr hU (by omega)
      have D8 := hU.dig
      have e8 : digW ws = digs (m * n) := by unfold digW; rw [hv]
      rw [e8] at D8 WH
      rw [hln] at WH
      have nbo : b ∉ [bo] := by
        have := BLT.out
        have := HBO.out
        simp only [List.mem_singleton]
        omega
      have B8 := B7.out.frame hR.out.2.2 nbo
      have F8 := Lib.hid ((F6.out.trans1 S7.out.2).trans hR.out.2.2 (fun x hx => by simp at hx; subst hx; exact .inr (by have := HBO.out; have := F6.out.size; omega)))
      have y0 := B8.at 0 rfl
      have y1 := B8.at 1 rfl
      have zf := B8.frozen
      have B5 := Lib.hid (putN B8 (.bool false) (.slice (some ⟨bo, 0, none⟩) (digs (m * n)).length (i + q)))
      have KD := Lib.hid (KeepD.blk (show Frame [b] wr _ from (Frame.setCell (S := [b]) wr ⟨b, 0, none⟩ (.bool false) (by simp)).trans1 (Frame.setCell _ ⟨b, 1, none⟩ (.slice (some ⟨bo, 0, none⟩) (digs (m * n)).length (i + q)) (by simp))) B8 (by decide))
      have F5 := Lib.hid (putN_frame HB.out F8.out (.bool false) (.slice (some ⟨bo, 0, none⟩) (digs (m * n)).length (i + q)))
      have D8h := Lib.hid D8
      have WHh := Lib.hid WH
      clear B8 D8 WH hU e8 hv hR nbo
      go_wp2_with fail
      refine WHh.out.mono ?_
      rintro e w8 ⟨rfl, rfl⟩
      go_wp2_with fail
      refine bodyPost_ret (results_cell_row rfl _ _ b 36 #[.bool false, .slice (some ⟨bo, 0, none⟩) (digs (m * n)).length (i + q)] (0, 0) _ rfl B5.out Try.underlying36 rfl (by kernel_rfl)) rfl ?_
      exact ⟨_, rfl, ⟨_, _, rfl, D8h.out.kept KD.out⟩, F5.out⟩
theorem nmul_any (u v : Value) (x y : Option Nat) (w : World) (h1 : NR w u x) (h2 : NR w v y) (l1 : Sz x) (l2 : Sz y) : Calls Try.prog 71 #[u, v] w (NREnd (mulO x y) w) := by
  have dz : ∀ {m : Nat}, (digs m).length = 0 ↔ m = 0 := fun {m} => by rw [List.length_eq_zero_iff, digs_nil]
  have z0 : (digs 0).length = 0 := by rw [digs_zero]; rfl
  have hz0 : (digs 0).length ≤ SZ := by rw [z0]; exact Nat.zero_le _
  cases x with
  | none =>
    subst h1
    cases y with
    | none =>
      subst h2
      have := nmul_inf_true_true none none 0 0 0 0 w (dr_zero w) (dr_zero w) hz0 hz0 (.inr rfl) (.inr rfl)
      rw [z0] at this
      exact this
    | some n =>
      obtain ⟨b, d, rfl, h2⟩ := h2
      by_cases hn : n = 0
      · have := nmul_zr_true none b 0 d 0 n w (dr_zero w) h2 hz0 l2 (.inr rfl) (dz.mpr hn)
        rw [z0] at this
        simp only [mulO, if_pos hn]
        exact this
      · have := nmul_inf_true_false none b 0 d 0 n w (dr_zero w) h2 hz0 l2 (.inr rfl) (.inl (fun h => hn (dz.mp h)))
        rw [z0] at this
        simp only [mulO, if_neg hn]
        exact this
  | some m =>
    obtain ⟨a, c, rfl, h1⟩ := h1
    cases y with
    | none =>
      subst h2
      by_cases hm : m = 0
      · have := nmul_zl a none c 0 m 0 w h1 (dr_zero w) l1 hz0 true (dz.mpr hm) rfl
        rw [z0] at this
        simp only [mulO, if_pos hm]
        exact this
      · have := nmul_inf_false_true a none c 0 m 0 w h1 (dr_zero w) l1 hz0 (.inl (fun h => hm (dz.mp h))) (.inr rfl)
        rw [z0] at this
        simp only [mulO, if_neg hm]
        exact this
    | some n =>
      obtain ⟨b, d, rfl, h2⟩ := h2
      simp only [mulO]
      by_cases hm : m = 0
      · have := nmul_zl a b c d m n w h1 h2 l1 l2 false (dz.mpr hm) rfl
        rw [hm, Nat.zero_mul]
        rw [hm] at this
        exact this
      · by_cases hn : n = 0
        · have := nmul_zr_false a b c d m n w h1 h2 l1 l2 (.inl (fun h => hm (dz.mp h))) (dz.mpr hn)
          rw [hn, Nat.mul_zero]
          rw [hn] at this
          exact this
        · exact nmul_fin a b c d m n w h1 h2 l1 l2 (fun h => hm (dz.mp h)) (fun h => hn (dz.mp h))
end Go.Proofs.Ytbnhhmejlglbcaa

