/- nat's functions at whatever digits: May, Clone, Compare, Same. nat.Compare, nat.Same with infinity; Clone of digits; own rows of digits. -/
import Derived.Test.YtbnhhmejlglbcaaMg29
import Derived.Test.YtbnhhmejlglbcaaMg24
import Derived.Test.YtbnhhmejlglbcaaShelf
namespace Go.Proofs.Ytbnhhmejlglbcaa
open Go.RowKit
set_option linter.unusedSimpArgs false
set_option linter.unusedVariables false

/-- The bound of what is reckoned with. -/
def SZ : Nat := 100000000
theorem isNaNU (x : Int) (w : World) : Calls Try.prog 101 #[.int .u32 x] w fun e w' => e = .returned (.bool false) ∧ w' = w := by
  go_enter Try.func101, Try.ntmps101
  go_wp2_with fail
  go_ret
  exact ⟨rfl, rfl⟩
/-- How two numbers stand. -/
def cmpZ (x y : Int) : Int := if x < y then -1 else if y < x then 1 else 0
theorem cmpU_any (x y : Int) (w : World) : Calls Try.prog 97 #[.int .u32 x, .int .u32 y] w fun e w' => e = .returned (.int .i64 (cmpZ x y)) ∧ w' = w := by
  have hr : ∀ b c, (decide (x < y) = b) → (decide (y < x) = c) → cmpZ x y = if b = true then -1 else if c = true then 1 else 0 := fun b c h1 h2 => by
    subst h1 h2; unfold cmpZ; simp
  by_cases h1 : x < y
  · rw [hr true _ (decide_eq_true h1) rfl]
    have d1 : decide (x < y) = true := decide_eq_true h1
    clear hr
    go_enter Try.func97, Try.ntmps97
    go_wp2_with fail
    refine (isNaNU x _).mono ?_
    rintro e w ⟨rfl, rfl⟩
    go_wp2_with fail
    refine (isNaNU y _).mono ?_
    rintro e w ⟨rfl, rfl⟩
    go_wp2_with fail
    go_ret
    exact ⟨rfl, rfl⟩
  · have d1 : decide (x < y) = false := decide_eq_false h1
    by_cases h2 : y < x
    · rw [hr false true d1 (decide_eq_true h2)]
      have d2 : decide (y < x) = true := decide_eq_true h2
      clear hr
      go_enter Try.func97, Try.ntmps97
      go_wp2_with fail
      refine (isNaNU x _).mono ?_
      rintro e w ⟨rfl, rfl⟩
      go_wp2_with fail
      refine (isNaNU y _).mono ?_
      rintro e w ⟨rfl, rfl⟩
      go_wp2_with fail
      go_ret
      exact ⟨rfl, rfl⟩
    · have d2 : decide (y < x) = false := decide_eq_false h2
      rw [hr false false d1 d2]
      clear hr
      go_enter Try.func97, Try.ntmps97
      go_wp2_with fail
      refine (isNaNU x _).mono ?_
      rintro e w ⟨rfl, rfl⟩
      go_wp2_with fail
      refine (isNaNU y _).mono ?_
      rintro e w ⟨rfl, rfl⟩
      go_wp2_with fail
      go_ret
      exact ⟨rfl, rfl⟩
/-- May a number be? -/
theorem may_dr (a : Option Addr) (c : Nat) (xs : List Int) (w : World) (h : DR w a c xs) (hl : xs.length ≤ 4000000000) :
    Calls Try.prog 60 #[.agg #[.bool false, .slice a xs.length c]] w fun e w' => e = .returned (.bool ((digW xs).length == xs.length)) ∧ Frame [] w w' := by
  have H := Lib.hid h
  clear h
  generalize hn : (digW xs).length = n
  have HN := Lib.hid hn
  clear hn
  go_enter Try.func60, Try.ntmps60
  have B0 := Blk.new w 36 #[.bool false, .slice a xs.length c]
  have F1 : Hid (Frame [] w (w.alloc (.cells #[.bool false, .slice a xs.length c] 36))) := Frame.alloc _ _ _
  go_upto_region 1 with fail
  generalize w.alloc (.cells #[.bool false, .slice a xs.length c] 36) = w1 at *
  have x0 := B0.at 0 rfl
  have y0 := framed_cell (B0.at 1 rfl)
  clear B0
  have WH := Lib.hid (fun w' (f : Frame [] w1 w') => whole_dr a c xs w' (H.out.frame (F1.out.trans1 f)) hl)
  rw [HN.out] at WH
  go_wp2_with fail
  refine wp_region_framed (by kernel_rfl) (by kernel_rfl) ?_
  repeat (go_big_quiet_step (exact framed_same (WH.out _ (FramedBy.h _))))
  refine wpQuiet_nil ?_
  intro w6 hw
  have f6 := framed_out hw
  clear hw
  go_wp2_with fail
  go_ret
  have e : (decide ((n : Int) = (xs.length : Int))) = (n == xs.length) := by
    by_cases h : n = xs.length
    · subst h; simp
    · have h2 : ¬ (n : Int) = xs.length := by omega
      simp [h, h2]
  refine ⟨?_, F1.out.trans1 f6⟩
  first | rw [e] | (simp; omega) | simp
theorem compareInt_cmpZ (x y : Int) : Lib.compareInt x y = cmpZ x y := rfl
/-- The loop's state at Compare. -/
def CmpS (m n : Nat) (o : Int) (k : Nat) : Prop := (o = 0 ∧ (digs m).length = (digs n).length ∧ (digs m).drop k = (digs n).drop k) ∨ (o ≠ 0 ∧ o = cmpZ m n)
theorem CmpS.start (m n : Nat) : CmpS m n (cmpZ (digs m).length (digs n).length) (digs m).length := by
  unfold cmpZ
  by_cases h1 : (digs m).length < (digs n).length
  · right
    have := digs_len_lt h1
    have h2 : (m : Int) < n := by omega
    simp [h1, h2, cmpZ]
  · by_cases h2 : (digs n).length < (digs m).length
    · right
      have := digs_len_lt h2
      have h3 : ¬ (m : Int) < n := by omega
      have h4 : (n : Int) < m := by omega
      simp [h1, h2, h3, h4, cmpZ]
    · left
      have e : (digs m).length = (digs n).length := by omega
      refine ⟨by simp [h1, h2], e, ?_⟩
      rw [List.drop_eq_nil_of_le (Nat.le_refl _), List.drop_eq_nil_of_le (by omega)]
theorem CmpS.next {m n : Nat} {k : Nat} {x y : Int} (h : CmpS m n 0 (k + 1)) (hx : (digs m)[k]? = some x) (hy : (digs n)[k]? = some y) : CmpS m n (cmpZ x y) k := by
  rcases h with ⟨-, e, hd⟩ | ⟨h0, -⟩
  · obtain ⟨hkx, ex⟩ := List.getElem?_eq_some_iff.mp hx
    obtain ⟨hky, ey⟩ := List.getElem?_eq_some_iff.mp hy
    by_cases h1 : x < y
    · right
      have := top_lt (digs_ok m) (digs_ok n) hd hx hy h1
      rw [valD_digs, valD_digs] at this
      have h2 : (m : Int) < n := by omega
      simp [cmpZ, h1, h2]
    · by_cases h2 : y < x
      · right
        have := top_lt (digs_ok n) (digs_ok m) hd.symm hy hx h2
        rw [valD_digs, valD_digs] at this
        have h3 : ¬ (m : Int) < n := by omega
        have h4 : (n : Int) < m := by omega
        simp [cmpZ, h1, h2, h3, h4]
      · left
        refine ⟨by simp [cmpZ, h1, h2], e, ?_⟩
        rw [← List.getElem_cons_drop (h := hkx), ← List.getElem_cons_drop (h := hky), ex, ey, hd, show x = y by omega]
  · exact absurd rfl h0
theorem CmpS.done {m n : Nat} (h : CmpS m n 0 0) : cmpZ m n = 0 := by
  rcases h with ⟨-, -, hd⟩ | ⟨h0, -⟩
  · rw [List.drop_zero, List.drop_zero] at hd
    have := digs_inj hd
    subst this; simp [cmpZ]
  · exact absurd rfl h0
theorem whole_id (a : Option Addr) (c m : Nat) (w : World) (h : DR w a c (digs m)) (hl : (digs m).length ≤ 4000000000) : Calls Try.prog 83 #[.slice a (digs m).length c] w fun e w' => e = .returned (.slice a (digs m).length c) ∧ w' = w := by
  have := whole_dr a c (digs m) w h hl
  rwa [digW_digs] at this
/-- Two numbers' digits, side by side. -/
theorem whole_two (a1 a2 : Option Addr) (c1 c2 m n : Nat) (w : World) (h1 : DR w a1 c1 (digs m)) (h2 : DR w a2 c2 (digs n)) (l1 : (digs m).length ≤ SZ) (l2 : (digs n).length ≤ SZ) (a : Option Addr) (k c : Nat) (h : (a = a1 ∧ k = (digs m).length ∧ c = c1) ∨ (a = a2 ∧ k = (digs n).length ∧ c = c2)) :
    Calls Try.prog 83 #[.slice a k c] w fun e w' => e = .returned (.slice a k c) ∧ w' = w := by
  unfold SZ at *
  rcases h with ⟨rfl, rfl, rfl⟩ | ⟨rfl, rfl, rfl⟩
  · exact whole_id _ _ _ _ h1 (by omega)
  · exact whole_id _ _ _ _ h2 (by omega)
set_option maxHeartbeats 2000000 in
set_option maxRecDepth 100000 in
theorem ncmp_dr (a1 a2 : Option Addr) (c1 c2 m n : Nat) (w : World) (h1 : DR w a1 c1 (digs m)) (h2 : DR w a2 c2 (digs n)) (l1 : (digs m).length ≤ SZ) (l2 : (digs n).length ≤ SZ) :
    Calls Try.prog 90 #[.agg #[.bool false, .slice a1 (digs m).length c1], .agg #[.bool false, .slice a2 (digs n).length c2]] w fun e w' => e = .returned (.int .i64 (cmpZ m n)) ∧ Frame [] w w' := by
  have H1 := Lib.hid h1
  have H2 := Lib.hid h2
  have CS := Lib.hid (CmpS.start m n)
  have WT := Lib.hid (fun w' (f : Frame [] w w') => whole_two a1 a2 c1 c2 m n w' (h1.frame f) (h2.frame f) l1 l2)
  have hx : ∀ k (h : k < (digs m).length), (digs m)[k]? = some (digs m)[k] := fun k h => List.getElem?_eq_getElem h
  have HX : Hid (∀ (k : Nat) (x : Int), (digs m)[k]? = some x → ∀ w', Frame [] w w' → ∃ b off, a1 = some ⟨b, off, none⟩ ∧ w'.cell? ⟨b, off + k, none⟩ = some (.int .u32 x)) := fun k x hx w' f => (h1.frame f).cell hx
  have HY : Hid (∀ (k : Nat) (x : Int), (digs n)[k]? = some x → ∀ w', Frame [] w w' → ∃ b off, a2 = some ⟨b, off, none⟩ ∧ w'.cell? ⟨b, off + k, none⟩ = some (.int .u32 x)) := fun k x hx w' f => (h2.frame f).cell hx
  obtain ⟨p, hp⟩ : ∃ p, (digs m).length = p := ⟨_, rfl⟩
  obtain ⟨q, hq⟩ : ∃ q, (digs n).length = q := ⟨_, rfl⟩
  rw [hp] at CS WT l1 ⊢
  rw [hq] at CS WT l2 ⊢
  have HP := Lib.hid hp
  have HQ := Lib.hid hq
  have hlp : p ≤ 100000000 := l1
  have hlq : q ≤ 100000000 := l2
  clear h1 h2 hx hp hq l1 l2 H1 H2
  obtain ⟨r, hr⟩ : ∃ r, cmpZ m n = r := ⟨_, rfl⟩
  rw [hr]
  have HR := Lib.hid hr
  clear hr
  go_enter Try.func90, Try.ntmps90
  have B0 := (Blk.new w 36 #[.bool false, .slice a1 p c1]).alloc (.cells #[.bool false, .slice a2 q c2] 36)
  have B1 := Blk.new (w.alloc (.cells #[.bool false, .slice a1 p c1] 36)) 36 #[.bool false, .slice a2 q c2]
  have F1 : Hid (Frame [] w ((w.alloc (.cells #[.bool false, .slice a1 p c1] 36)).alloc (.cells #[.bool false, .slice a2 q c2] 36))) := by show Frame [] w _; (repeat first | assumption | exact Frame.refl _ _ | refine Frame.trans1 ?_ (Frame.alloc _ _ _) | refine Frame.trans1 ?_ (Frame.drew _ _) | refine Frame.trans1 ?_ (Frame.drewN _ _ _))
  simp only [World.size_alloc] at B1
  go_upto_region 1 with fail
  generalize (w.alloc (.cells #[.bool false, .slice a1 p c1] 36)).alloc (.cells #[.bool false, .slice a2 q c2] 36) = w1 at *
  have x0 := B0.at 0 rfl
  have x1 := B1.at 0 rfl
  have y0 := framed_cell (B0.at 1 rfl)
  have y1 := framed_cell (B1.at 1 rfl)
  clear B0 B1
  go_wp2_with fail
  refine wp_region_framed (by kernel_rfl) (by kernel_rfl) ?_
  repeat (go_big_quiet_step (exact framed_same (WT.out _ (F1.out.trans1 (FramedBy.h _)) _ _ _ (by simp))))
  refine wpQuiet_nil ?_
  intro w6 hw
  have f6 := framed_out hw
  clear hw
  clear x0 x1 y0 y1
  have F6 := Lib.hid (F1.out.trans1 f6)
  clear f6 F1 WT
  go_wp2_with fail
  refine (Try.cmp_Compare_int p q _).mono ?_
  rintro e w7 ⟨rfl, rfl⟩
  rw [compareInt_cmpZ]
  generalize cmpZ p q = o at *
  go_wp2_with fail
  go_loopw [7, 8] (fun u i wr => ∃ (o : Int) (k : Nat), k ≤ p ∧ u = .int .i64 o ∧ i = .int .i64 ((k : Int) - 1) ∧ Hid (CmpS m n o k ∧ Frame [] w wr)) (fun _ i _ => ((intOf i) + 1).toNat)
  case atStart => exact ⟨o, p, Nat.le_refl _, rfl, rfl, Lib.hid ⟨CS.out, F6.out⟩⟩
  case round =>
    rename World => wr
    clear CS F6
    obtain ⟨o, k, hk, rfl, rfl, hc⟩ := hrel
    cases k with
    | zero =>
      by_cases h0 : o = 0
      · subst h0
        have e := hc.out.1.done
        rw [HR.out] at e
        subst e
        go_wp2_with fail
        go_ret
        exact ⟨rfl, hc.out.2⟩
      · have e : o = r := by
          rcases hc.out.1 with h | h
          · exact absurd h.1 h0
          · rw [h.2, HR.out]
        subst e
        go_wp2_with fail
        go_ret
        exact ⟨rfl, hc.out.2⟩
    | succ k =>
      by_cases h0 : o = 0
      · subst h0
        have e : p = q := by
          rcases hc.out.1 with h | h
          · rw [← HP.out, ← HQ.out]; exact h.2.1
          · exact absurd rfl h.1
        have hx : (digs m)[k]? = some ((digs m)[k]'(by rw [HP.out]; omega)) := List.getElem?_eq_getElem _
        have hy : (digs n)[k]? = some ((digs n)[k]'(by rw [HQ.out]; omega)) := List.getElem?_eq_getElem _
        generalize (digs m)[k]'(by rw [HP.out]; omega) = x at hx
        generalize (digs n)[k]'(by rw [HQ.out]; omega) = y at hy
        obtain ⟨b, off, rfl, z0⟩ := HX.out k x hx wr hc.out.2
        obtain ⟨b', off', rfl, z1⟩ := HY.out k y hy wr hc.out.2
        have NX := Lib.hid (hc.out.1.next hx hy)
        clear hx hy
        have g1 : decide ((0 : Int) ≤ (k : Int)) = true := by simp
        go_wp2_with fail
        have z0f := framed_cell z0
        have z1f := framed_cell z1
        refine wp_region_framed (by kernel_rfl) (by kernel_rfl) ?_
        repeat (go_big_quiet_step (exact framed_same (cmpU_any _ _ _)))
        refine wpQuiet_nil ?_
        intro w6 hw
        have f6 := framed_out hw
        clear hw
        have F7 := Lib.hid (hc.out.2.trans1 f6)
        clear f6 z0 z1 z0f z1f hc
        generalize cmpZ x y = o2 at *
        go_wp2_with fail
        go_roundw
        case rel => exact ⟨o2, k, by omega, by first | trivial | rfl, by first | trivial | rfl | go_num, Lib.hid ⟨NX.out, F7.out⟩⟩
        case measure => first | (simp [intOf]; done) | (simp [intOf]; omega)
      · have e : o = r := by
          rcases hc.out.1 with h | h
          · exact absurd h.1 h0
          · rw [h.2, HR.out]
        subst e
        have hb : (o == 0) = false := by simpa using h0
        have g1 : decide ((0 : Int) ≤ (k : Int)) = true := by simp
        go_wp2_with fail
        go_ret
        exact ⟨rfl, hc.out.2⟩
end Go.Proofs.Ytbnhhmejlglbcaa

namespace Go.Proofs.Ytbnhhmejlglbcaa
open Go.RowKit
set_option linter.unusedSimpArgs false
set_option linter.unusedVariables false

/-- A number as a value: none is infinity. -/
def NR (w : World) (v : Value) : Option Nat → Prop
  | none => v = .agg #[.bool true, .slice none 0 0]
  | some m => ∃ a c, v = .agg #[.bool false, .slice a (digs m).length c] ∧ DR w a c (digs m)
theorem NR.kept {w w' : World} {v : Value} {x : Option Nat} (h : NR w v x) (k : KeepD w w') : NR w' v x := by
  cases x with
  | none => exact h
  | some m => obtain ⟨a, c, e, d⟩ := h; exact ⟨a, c, e, d.kept k⟩
theorem NR.frame {w w' : World} {v : Value} {x : Option Nat} (h : NR w v x) (f : Frame [] w w') : NR w' v x := h.kept (KeepD.of0 f)
/-- No more digits than are reckoned with. -/
def Sz : Option Nat → Prop
  | none => True
  | some m => (digs m).length ≤ SZ
def cmpO : Option Nat → Option Nat → Int
  | none, none => 0
  | none, some _ => 1
  | some _, none => -1
  | some m, some n => cmpZ m n
theorem boxes2 (w : World) (u v : Array Value) : Blk ((w.alloc (.cells u 36)).alloc (.cells v 36)) w.heap.size 36 u ∧ Blk ((w.alloc (.cells u 36)).alloc (.cells v 36)) (w.heap.size + 1) 36 v ∧ Frame [] w ((w.alloc (.cells u 36)).alloc (.cells v 36)) := by
  have B1 := Blk.new (w.alloc (.cells u 36)) 36 v
  simp only [World.size_alloc] at B1
  exact ⟨(Blk.new w 36 u).alloc _, B1, by (repeat first | assumption | exact Frame.refl _ _ | refine Frame.trans1 ?_ (Frame.alloc _ _ _) | refine Frame.trans1 ?_ (Frame.drew _ _) | refine Frame.trans1 ?_ (Frame.drewN _ _ _))⟩
set_option maxHeartbeats 2000000 in
set_option maxRecDepth 100000 in
theorem ncmp_any (u v : Value) (x y : Option Nat) (w : World) (h1 : NR w u x) (h2 : NR w v y) (l1 : Sz x) (l2 : Sz y) : Calls Try.prog 90 #[u, v] w fun e w' => e = .returned (.int .i64 (cmpO x y)) ∧ Frame [] w w' := by
  cases x with
  | none =>
    subst h1
    cases y with
    | none =>
      subst h2
      obtain ⟨B0, B1, F⟩ := boxes2 w #[.bool true, .slice none 0 0] #[.bool true, .slice none 0 0]
      have FF := Lib.hid F
      go_enter Try.func90, Try.ntmps90
      go_upto_region 1 with fail
      generalize (w.alloc (.cells #[.bool true, .slice none 0 0] 36)).alloc (.cells #[.bool true, .slice none 0 0] 36) = w1 at *
      have x0 := B0.at 0 rfl
      have x1 := B1.at 0 rfl
      clear B0 B1 F
      go_wp2_with fail
      go_ret
      exact ⟨rfl, FF.out⟩
    | some n =>
      obtain ⟨a, c, rfl, -⟩ := h2
      generalize (digs n).length = q
      obtain ⟨B0, B1, F⟩ := boxes2 w #[.bool true, .slice none 0 0] #[.bool false, .slice a q c]
      have FF := Lib.hid F
      go_enter Try.func90, Try.ntmps90
      go_upto_region 1 with fail
      generalize (w.alloc (.cells #[.bool true, .slice none 0 0] 36)).alloc (.cells #[.bool false, .slice a q c] 36) = w1 at *
      have x0 := B0.at 0 rfl
      have x1 := B1.at 0 rfl
      clear B0 B1 F
      go_wp2_with fail
      go_ret
      exact ⟨rfl, FF.out⟩
  | some m =>
    obtain ⟨a, c, rfl, h1⟩ := h1
    cases y with
    | none =>
      subst h2
      generalize (digs m).length = q
      obtain ⟨B0, B1, F⟩ := boxes2 w #[.bool false, .slice a q c] #[.bool true, .slice none 0 0]
      have FF := Lib.hid F
      clear h1
      go_enter Try.func90, Try.ntmps90
      go_upto_region 1 with fail
      generalize (w.alloc (.cells #[.bool false, .slice a q c] 36)).alloc (.cells #[.bool true, .slice none 0 0] 36) = w1 at *
      have x0 := B0.at 0 rfl
      have x1 := B1.at 0 rfl
      clear B0 B1 F
      go_wp2_with fail
      go_ret
      exact ⟨rfl, FF.out⟩
    | some n =>
      obtain ⟨b, d, rfl, h2⟩ := h2
      exact ncmp_dr a b c d m n w h1 h2 l1 l2
theorem NR.form {w : World} {v : Value} {x : Option Nat} (h : NR w v x) : ∃ i a n c, v = .agg #[.bool i, .slice a n c] := by
  cases x with
  | none => exact ⟨_, _, _, _, h⟩
  | some m => obtain ⟨a, c, rfl, -⟩ := h; exact ⟨_, _, _, _, rfl⟩
theorem cmpO_zero (x y : Option Nat) : (cmpO x y == 0) = decide (x = y) := by
  cases x with
  | none => cases y <;> simp [cmpO]
  | some m =>
    cases y with
    | none => simp [cmpO]
    | some n =>
      simp only [cmpO, cmpZ, Option.some.injEq]
      by_cases h1 : (m : Int) < n
      · have : m ≠ n := by omega
        simp [h1, this]
      · by_cases h2 : (n : Int) < m
        · have : m ≠ n := by omega
          simp [h1, h2, this]
        · have : m = n := by omega
          simp [h1, h2, this]
set_option maxRecDepth 100000 in
theorem nsame_any (u v : Value) (x y : Option Nat) (w : World) (h1 : NR w u x) (h2 : NR w v y) (l1 : Sz x) (l2 : Sz y) : Calls Try.prog 98 #[u, v] w fun e w' => e = .returned (.bool (decide (x = y))) ∧ Frame [] w w' := by
  rw [← cmpO_zero]
  have C := Lib.hid (fun w' (f : Frame [] w w') => ncmp_any u v x y w' (h1.frame f) (h2.frame f) l1 l2)
  obtain ⟨i, a, n, c, rfl⟩ := h1.form
  obtain ⟨j, b, m, d, rfl⟩ := h2.form
  clear h1 h2
  generalize cmpO x y = r at *
  obtain ⟨B0, B1, F⟩ := boxes2 w #[.bool i, .slice a n c] #[.bool j, .slice b m d]
  have FF := Lib.hid F
  go_enter Try.func98, Try.ntmps98
  go_upto_region 1 with fail
  generalize (w.alloc (.cells #[.bool i, .slice a n c] 36)).alloc (.cells #[.bool j, .slice b m d] 36) = w1 at *
  have x0 := B0.at 0 rfl
  have x1 := B0.at 1 rfl
  have y0 := B1.at 0 rfl
  have y1 := B1.at 1 rfl
  clear B0 B1 F
  go_wp2_with fail
  refine (C.out _ FF.out).mono ?_
  rintro e w2 ⟨rfl, f2⟩
  have F2 := Lib.hid (FF.out.trans1 f2)
  clear f2 C
  go_wp2_with fail
  go_ret
  exact ⟨rfl, F2.out⟩
/-! ### rows of digits of one's own -/
def encD (x : Int) : List Value := [.int .u32 x]
theorem encD_len (n : Int) : (encD n).length = 1 := rfl
theorem encD_one (n : Int) : ∀ u ∈ encD n, u.oneCell' = true := by simp [encD, Value.oneCell']
theorem infoD : (Try.prog.info? 77).map (fun i => (i.zero, i.size, i.bytes)) = some (some (.int .u32 0), 1, 4) := by kernel_rfl
/-- An own row at block b. -/
def URow (w : World) (b c : Nat) (xs : List Int) : Prop := RowAt w b 77 1 xs.length c (xs.map fun x => Value.int .u32 x)
theorem flat_map1 (xs : List Int) : xs.flatMap encD = xs.map fun x => Value.int .u32 x := by
  induction xs with
  | nil => rfl
  | cons a t ih => rw [List.flatMap_cons, ih]; rfl
theorem URow.sl {w : World} {b c : Nat} {xs : List Int} (h : URow w b c xs) : Sl w 77 1 encD (.slice (some ⟨b, 0, none⟩) xs.length c) xs [b] :=
  .inr ⟨b, c, rfl, rfl, by rw [flat_map1]; exact h⟩
theorem URow.of_sl {w : World} {a : Option Addr} {n c : Nat} {xs : List Int} {G : List Nat} (h : Sl w 77 1 encD (.slice a n c) xs G) (h0 : xs ≠ []) : ∃ b, a = some ⟨b, 0, none⟩ ∧ n = xs.length ∧ G = [b] ∧ URow w b c xs := by
  rcases h with ⟨_, h, _⟩ | ⟨b, cap, h1, rfl, h2⟩
  · exact absurd h h0
  · simp only [Value.slice.injEq] at h1
    obtain ⟨rfl, rfl, rfl⟩ := h1
    exact ⟨b, rfl, rfl, rfl, by rw [flat_map1] at h2; exact h2⟩
theorem URow.cell {w : World} {b c : Nat} {xs : List Int} (h : URow w b c xs) {k : Nat} {x : Int} (hx : xs[k]? = some x) : w.cell? ⟨b, k, none⟩ = some (.int .u32 x) := RowAt.cell h (by rw [List.getElem?_map, hx]; rfl)
theorem URow.frozen {w : World} {b c : Nat} {xs : List Int} (h : URow w b c xs) (k : Nat) : w.frozen? ⟨b, k, none⟩ = false := RowAt.frozen h k
theorem URow.lt {w : World} {b c : Nat} {xs : List Int} (h : URow w b c xs) : b < w.heap.size := RowAt.lt h
theorem URow.frame {w w' : World} {b c : Nat} {xs : List Int} {S : List Nat} (h : URow w b c xs) (f : Frame S w w') (hb : b ∉ S) : URow w' b c xs := RowAt.frame h f hb
theorem URow.put {w : World} {b c : Nat} {xs : List Int} (h : URow w b c xs) {k : Nat} (hk : k < xs.length) (v : Int) : URow (w.setCell ⟨b, k, none⟩ (.int .u32 v)) b c (xs.set k v) := by
  obtain ⟨cs, h1, h2, h3, h4, h5⟩ := RowAt.blk h
  refine RowAt.of_blk (h1.set _ _) (by simpa using h2) h3 (by simpa using h4) ?_
  rw [Array.toList_setIfInBounds, List.take_set, List.length_set, h5, List.map_set]
theorem URow.dr {w : World} {b c : Nat} {xs : List Int} (h : URow w b c xs) (ok : DOk xs) : DR w (some ⟨b, 0, none⟩) c xs := by
  obtain ⟨cs, h1, h2, h3, h4, h5⟩ := RowAt.blk h
  refine DR.of_blk ok h1 h2 h3 fun k x hx => ?_
  have hk : k < xs.length := (List.getElem?_eq_some_iff.mp hx).1
  have e : (cs.toList.take (xs.length * 1))[k]? = some (Value.int .u32 x) := by rw [h5, List.getElem?_map, hx]; rfl
  rw [List.getElem?_take_of_lt (by omega), Array.getElem?_toList] at e
  exact e
theorem slCapD {α : Type} {w : World} {e sz : Nat} {enc : α → List Value} {a : Option Addr} {n c : Nat} {xs : List α} {G : List Nat} (h : Sl w e sz enc (.slice a n c) xs G) : n ≤ c ∧ c ≤ maxLen := by
  rcases h with ⟨h1, _⟩ | ⟨b, cap, h1, _, h3⟩
  · injection h1 with _ e1 e2
    subst e1 e2
    exact ⟨Nat.le_refl _, by unfold maxLen; omega⟩
  · injection h1 with _ e1 e2
    subst e1 e2
    obtain ⟨cs, _, h4, h5, _⟩ := h3.blk
    exact ⟨h4, h5⟩
theorem sl_dr {w : World} {a : Option Addr} {n c : Nat} {xs : List Int} {G : List Nat} (h : Sl w 77 1 encD (.slice a n c) xs G) (ok : DOk xs) : DR w a c xs := by
  by_cases h0 : xs = []
  · subst h0
    have := slCapD h
    exact DR.nil _ _ this.2
  · obtain ⟨b, rfl, rfl, rfl, h2⟩ := URow.of_sl h h0
    exact h2.dr ok
theorem dr_rf {w : World} {a : Option Addr} {c : Nat} {xs : List Int} (h : DR w a c xs) : RF (fun _ => True) w 1 encD a xs := fun k x hx => by
  by_cases h0 : xs = []
  · subst h0; simp at hx
  obtain ⟨b, off, rfl, hc⟩ := h.cells h0
  refine ⟨b, off, rfl, trivial, fun j u hu => ?_⟩
  match j, hu with
  | 0, hu =>
    have : u = .int .u32 x := by simpa [encD] using hu.symm
    rw [this, Nat.mul_one, Nat.add_zero]
    exact hc k x hx
  | j + 1, hu => simp [encD] at hu
/-- A row of one's own, nil or not. -/
def OwnD (xs : List Int) (w : World) (e : Ending) (w' : World) : Prop := ∃ a c G, e = .returned (.slice a xs.length c) ∧ Sl w' 77 1 encD (.slice a xs.length c) xs G ∧ (∀ x ∈ G, w.heap.size ≤ x) ∧ Frame [] w w'
set_option maxHeartbeats 2000000 in
set_option maxRecDepth 100000 in
theorem clone_dr (a : Option Addr) (c : Nat) (xs : List Int) (w : World) (h : DR w a c xs) (hl : xs.length ≤ 200000000) : Calls Try.prog 89 #[.slice a xs.length c] w (OwnD xs w) := by
  have H := Lib.hid h
  clear h
  have q22 : ∀ (w : World) (a : Option Addr) (n c n' c' : Nat), (binOp .eql 34 (.slice a n c) (.slice none n' c')).run Try.prog w = .ok (.bool a.isNone) w := fun w a n c n' c' => Lib.run_eql_slice_nil w _ _ a n c n' c' Try.underlying34
  cases a with
  | none =>
    have h0 : xs = [] := by
      rcases H.out.2.2.2 with h | ⟨b, off, cs, fz, h, -⟩
      · exact h
      · cases h
    subst h0
    go_enter Try.func89, Try.ntmps89
    go_wp2_with fail
    go_ret
    exact ⟨none, 0, [], rfl, Sl.nil _ _ _ _, by simp, Frame.refl _ _⟩
  | some a =>
    go_enter Try.func89, Try.ntmps89
    go_wp2_with (at_builtin; refine wpList_append_rf rfl (.tmp 5) (.tmp 6) 34 rfl 77 1 4 _ encD Try.underlying34 infoD rfl (by omega) (.slice (some ⟨w.heap.size, 0, none⟩) 0 0) [] 0 rfl [w.heap.size] rfl (sl_empty w _ _ _) (fun _ => True) (some a) xs.length c xs rfl (dr_rf (H.out.frame (by (repeat first | assumption | exact Frame.refl _ _ | refine Frame.trans1 ?_ (Frame.alloc _ _ _) | refine Frame.trans1 ?_ (Frame.drew _ _) | refine Frame.trans1 ?_ (Frame.drewN _ _ _))))) rfl encD_len encD_one xs.length (by omega) (by omega) (by omega) ?_; intro a5 cap5 w5 G5 sl5 f5 hG5; have hF5 : Frame [] w w5 := (show Frame [] w _ from by (repeat first | assumption | exact Frame.refl _ _ | refine Frame.trans1 ?_ (Frame.alloc _ _ _) | refine Frame.trans1 ?_ (Frame.drew _ _) | refine Frame.trans1 ?_ (Frame.drewN _ _ _))).trans f5 (fun x hx => .inr (by simp at hx; omega)); have E5 := Lib.hid (And.intro sl5 (And.intro hF5 (fun x (hx : x ∈ G5) => (show w.heap.size ≤ x from by rcases hG5 x hx with h | h; simp at h; omega; exact Nat.le_trans (by simp) h)))); clear sl5 f5 hF5 hG5)
    go_ret
    exact ⟨a5, cap5, G5, rfl, by simpa using E5.out.1, E5.out.2.2, E5.out.2.1⟩
end Go.Proofs.Ytbnhhmejlglbcaa

