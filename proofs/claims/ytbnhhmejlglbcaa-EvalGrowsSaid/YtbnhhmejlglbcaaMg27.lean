/- tansyref1 at the number 1. tansylaw14.made: a store on both sides. (printed by gen_made.py) tansylaw14.awake. -/
import Derived.Test.YtbnhhmejlglbcaaMg23
import Derived.Test.YtbnhhmejlglbcaaMg24
import Derived.Test.YtbnhhmejlglbcaaMg25
import Derived.Test.YtbnhhmejlglbcaaMg17
import Derived.Test.YtbnhhmejlglbcaaMg26
import Derived.Test.YtbnhhmejlglbcaaMg01
import Derived.IntWalk
namespace Go.Proofs.Ytbnhhmejlglbcaa
open Go.RowKit
set_option linter.unusedSimpArgs false
set_option linter.unusedVariables false

def encU (x : Int) : List Value := [.int .u32 x]
theorem encU_len (n : Int) : (encU n).length = 1 := rfl
theorem encU_one (n : Int) : ∀ u ∈ encU n, u.oneCell' = true := by simp [encU, Value.oneCell']
theorem infoU32 : (Try.prog.info? 77).map (fun i => (i.zero, i.size, i.bytes)) = some (some (.int .u32 0), 1, 4) := by kernel_rfl
theorem slCap {α : Type} {w : World} {e sz : Nat} {enc : α → List Value} {a : Option Addr} {n c : Nat} {xs : List α} {G : List Nat} (h : Sl w e sz enc (.slice a n c) xs G) : n ≤ c ∧ c ≤ maxLen := by
  rcases h with ⟨h1, _⟩ | ⟨b, cap, h1, _, h3⟩
  · injection h1 with _ e1 e2
    subst e1 e2
    exact ⟨Nat.le_refl _, by unfold maxLen; omega⟩
  · injection h1 with _ e1 e2
    subst e1 e2
    obtain ⟨cs, _, h4, h5, _⟩ := h3.blk
    exact ⟨h4, h5⟩
/-- The number 1, its first digit read. -/
def NOne (w : World) (v : Value) : Prop := ∃ b cap, v = .agg #[.bool false, .slice (some ⟨b, 0, none⟩) 1 cap] ∧ 1 ≤ cap ∧ cap ≤ 9223372036854775807 ∧ w.cell? ⟨b, 0, none⟩ = some (.int .u32 1)
theorem NOne.frame {w w' : World} {v : Value} (h : NOne w v) (f : Frame [] w w') : NOne w' v := by
  obtain ⟨b, cap, h1, h2, h3, h4⟩ := h
  exact ⟨b, cap, h1, h2, h3, f.cell h4 (by simp)⟩
def CleanEnd (w : World) (e : Ending) (w' : World) : Prop := ∃ v, e = .returned v ∧ NOne w' v ∧ Frame [] w w'

set_option maxHeartbeats 4000000 in
set_option maxRecDepth 100000 in
theorem clean_one (b n cap : Nat) (xs : List Int) (w : World) (hn : xs = [1] ∨ xs = [1, 0]) (hx : xs.length = n) (hc : ∀ k x, xs[k]? = some x → w.cell? ⟨b, k, none⟩ = some (.int .u32 x)) :
    Calls Try.prog 33 #[.agg #[.bool false, .slice (some ⟨b, 0, none⟩) n cap]] w (CleanEnd w) := by
  have hn2 : n = 1 ∨ n = 2 := by rcases hn with rfl | rfl <;> simp at hx <;> omega
  have HN := Lib.hid hn
  have HX := Lib.hid hx
  have RW : Hid (∀ w', Frame [] w w' → RF (fun _ => True) w' 1 encU (some ⟨b, 0, none⟩) xs) := fun w' f k x hk => ⟨b, 0, rfl, trivial, fun j u hu => by
    match j, hu with
    | 0, hu =>
      have e : u = .int .u32 x := by simpa [encU] using hu.symm
      subst e
      rw [Nat.mul_one, Nat.add_zero, Nat.zero_add]
      exact f.cell (hc k x hk) (by simp)
    | j + 1, hu => simp [encU] at hu⟩
  clear hc hn hx
  have F0 : Hid (Frame [] w ((w.alloc (.cells #[.bool false, .slice (some ⟨b, 0, none⟩) n cap] 36)).alloc (.cells #[.bool false, .slice none 0 0] 36))) := by show Frame [] w _; (repeat first | assumption | exact Frame.refl _ _ | refine Frame.trans1 ?_ (Frame.alloc _ _ _) | refine Frame.trans1 ?_ (Frame.drew _ _) | refine Frame.trans1 ?_ (Frame.drewN _ _ _))
  have B0 := (Blk.new w 36 #[.bool false, .slice (some ⟨b, 0, none⟩) n cap]).alloc (.cells #[.bool false, .slice none 0 0] 36)
  have B1 := Blk.new (w.alloc (.cells #[.bool false, .slice (some ⟨b, 0, none⟩) n cap] 36)) 36 #[.bool false, .slice none 0 0]
  simp only [World.size_alloc] at B1
  have HB1 := Lib.hid B1
  go_enter Try.func33, Try.ntmps33
  go_upto_region 1 with fail
  generalize (w.alloc (.cells #[.bool false, .slice (some ⟨b, 0, none⟩) n cap] 36)).alloc (.cells #[.bool false, .slice none 0 0] 36) = w1 at *
  have x0 := B0.at 0 rfl
  have xa : ∀ o, (w1.alloc o).cell? ⟨w.heap.size, 1, none⟩ = some (.slice (some ⟨b, 0, none⟩) n cap) := fun o => (B0.alloc o).at 1 rfl
  clear B0 B1
  have sl0 : Sl (w1.alloc (.cells #[] 77)) 77 1 encU (.slice (some ⟨w1.heap.size, 0, none⟩) 0 0) [] [w1.heap.size] := Sl.of_blk (xs := ([] : List Int)) (cap := 0) (Blk.new w1 77 #[]) (Nat.le_refl _) (by unfold maxLen; omega) rfl rfl
  have SL0 := Lib.hid sl0
  clear sl0
  go_wp2_with (at_builtin; refine wpList_append_rf (by rfl) (.tmp 7) (.tmp 9) 34 (by rfl) 77 1 4 _ encU Try.underlying34 infoU32 rfl (by omega) (.slice (some ⟨w1.heap.size, 0, none⟩) 0 0) [] 0 rfl [w1.heap.size] (by rfl) SL0.out (fun _ => True) _ n _ xs (by rfl) (RW.out _ (F0.out.trans1 (by (repeat first | assumption | exact Frame.refl _ _ | refine Frame.trans1 ?_ (Frame.alloc _ _ _) | refine Frame.trans1 ?_ (Frame.drew _ _) | refine Frame.trans1 ?_ (Frame.drewN _ _ _))))) HX.out encU_len encU_one n (by omega) (by omega) (by omega) ?_; intro a5 cap5 w5 G5 sl5 f5 hG5; have hF5 : Frame [] w1 w5 := (Frame.alloc [] w1 (.cells #[] 77)).trans f5 (fun x hx => .inr (by simp at hx; omega)); have E5 := Lib.hid (And.intro sl5 hF5); have hcp := slCap sl5; clear sl5 f5 hG5)
  have hcap5 : cap5 ≤ 9223372036854775807 := by have := hcp.2; unfold maxLen at this; omega
  have hcap1 := hcp.1
  clear hcp
  obtain ⟨b5, rfl, hcells⟩ : ∃ b5, a5 = some ⟨b5, 0, none⟩ ∧ Hid (∀ k x, xs[k]? = some x → w5.cell? ⟨b5, k, none⟩ = some (.int .u32 x)) := by
    have h0 : xs[0]? = some 1 := by rcases HN.out with h | h <;> rw [h] <;> rfl
    obtain ⟨b5, cp, hv, -, -, -⟩ := E5.out.1.cell encU_len (k := 0) (x := 1) (by simpa using h0)
    simp only [Value.slice.injEq] at hv
    refine ⟨b5, hv.1, fun k x hk => ?_⟩
    obtain ⟨b6, cp6, hv6, -, -, hc6⟩ := E5.out.1.cell encU_len (k := k) (x := x) (by simpa using hk)
    simp only [Value.slice.injEq] at hv6
    have : b6 = b5 := by have := hv.1.symm.trans hv6.1; simp at this; exact this.symm
    subst this
    have := hc6 0 _ rfl
    simpa using this
  have hF5 := Lib.hid E5.out.2
  have B5 := Lib.hid (HB1.out.frame hF5.out (by simp))
  clear E5 HB1
  go_loopw [3] (fun v wr => ∃ k : Nat, (k = 1 ∨ k = n) ∧ v = .slice (some ⟨b5, 0, none⟩) k cap5 ∧ wr = w5) (fun v _ => match v with | .slice _ k _ => k | _ => 0)
  case atStart => exact ⟨n, .inr rfl, rfl, rfl⟩
  case round =>
    obtain ⟨k, hk, rfl, rfl⟩ := hrel
    have c0 := hcells.out 0 1 (by rcases HN.out with h | h <;> rw [h] <;> rfl)
    by_cases hk1 : k = 1
    · subst hk1
      clear hk
      have y0 := B5.out.at 0 rfl
      have y1 := B5.out.at 1 rfl
      have z0 := B5.out.frozen
      have B9 := Lib.hid ((B5.out.set 0 (.bool false)).set 1 (.slice (some ⟨b5, 0, none⟩) 1 cap5))
      have F9 : Hid (Frame [w.heap.size + 1] wr ((wr.setCell ⟨w.heap.size + 1, 0, none⟩ (.bool false)).setCell ⟨w.heap.size + 1, 1, none⟩ (.slice (some ⟨b5, 0, none⟩) 1 cap5))) := (Frame.setCell _ _ _ (by simp)).trans1 (Frame.setCell _ _ _ (by simp))
      have hne : b5 ≠ w.heap.size + 1 := by
        rintro rfl
        have := B5.out.cell 0
        rw [c0] at this
        simp at this
      go_wp2_with fail
      refine bodyPost_ret (results_cell_row rfl _ _ (w.heap.size + 1) 36 #[.bool false, .slice (some ⟨b5, 0, none⟩) 1 cap5] (0, 0) _ rfl B9.out Try.underlying36 rfl (by kernel_rfl)) rfl ?_
      exact ⟨_, rfl, ⟨b5, cap5, rfl, by omega, hcap5, F9.out.cell c0 (by simpa using hne)⟩, (F0.out.trans1 hF5.out).trans F9.out (fun x hx => by simp at hx; exact .inr (by omega))⟩
    · obtain rfl : k = 2 := by omega
      obtain rfl : n = 2 := by omega
      have c1 := hcells.out 1 0 (by
        rcases HN.out with h | h
        · have := HX.out; rw [h] at this; simp at this
        · rw [h]; rfl)
      clear hk hk1
      go_wp2_with fail
      go_roundw
      case rel => first | exact ⟨1, .inl rfl, rfl, rfl⟩ | exact ⟨1, .inl rfl, rfl⟩ | exact ⟨1, by simp⟩
      case measure => simp
theorem ofNat1_one (w : World) : Calls Try.prog 12 #[.int .u64 1] w (CleanEnd w) := by
  go_enter Try.func12, Try.ntmps12
  have B0 := Lib.hid ((Blk.new w 36 #[.bool false, .slice none 0 0]).alloc (.cells #[.int .u32 1, .int .u32 0] 77))
  have B1 := Blk.new (w.alloc (.cells #[.bool false, .slice none 0 0] 36)) 77 #[.int .u32 1, .int .u32 0]
  have F1 : Hid (Frame [] w ((w.alloc (.cells #[.bool false, .slice none 0 0] 36)).alloc (.cells #[.int .u32 1, .int .u32 0] 77))) := by show Frame [] w _; (repeat first | assumption | exact Frame.refl _ _ | refine Frame.trans1 ?_ (Frame.alloc _ _ _) | refine Frame.trans1 ?_ (Frame.drew _ _) | refine Frame.trans1 ?_ (Frame.drewN _ _ _))
  simp only [World.size_alloc] at B1
  go_wp2_with fail
  generalize (w.alloc (.cells #[.bool false, .slice none 0 0] 36)).alloc (.cells #[.int .u32 1, .int .u32 0] 77) = w1 at *
  refine (clean_one (w.heap.size + 1) 2 2 [1, 0] w1 (.inr rfl) rfl (fun k x hk => ?_)).mono ?_
  · match k, hk with
    | 0, hk => simp at hk; subst hk; exact B1.at 0 rfl
    | 1, hk => simp at hk; subst hk; exact B1.at 1 rfl
    | k + 2, hk => simp at hk
  rintro e w2 ⟨v, rfl, hv, f2⟩
  obtain ⟨b, cap, rfl, h1, h2, h3⟩ := hv
  have C0 := Lib.hid (B0.out.frame f2 (by simp))
  have y0 := C0.out.at 0 rfl
  have y1 := C0.out.at 1 rfl
  have z0 := C0.out.frozen
  have hne : b ≠ w.heap.size := by
    rintro rfl
    rw [h3] at y0
    simp at y0
  have B5 := Lib.hid ((C0.out.set 0 (.bool false)).set 1 (.slice (some ⟨b, 0, none⟩) 1 cap))
  have F5 : Hid (Frame [w.heap.size] w2 ((w2.setCell ⟨w.heap.size, 0, none⟩ (.bool false)).setCell ⟨w.heap.size, 1, none⟩ (.slice (some ⟨b, 0, none⟩) 1 cap))) := (Frame.setCell _ _ _ (by simp)).trans1 (Frame.setCell _ _ _ (by simp))
  have E := Lib.hid (And.intro h1 (And.intro h2 (And.intro h3 (And.intro f2 hne))))
  clear B1 h3 f2 hne
  go_wp2_with fail
  refine bodyPost_ret (results_cell_row rfl _ _ w.heap.size 36 #[.bool false, .slice (some ⟨b, 0, none⟩) 1 cap] (0, 0) _ rfl B5.out Try.underlying36 rfl (by kernel_rfl)) rfl ?_
  exact ⟨_, rfl, ⟨b, cap, rfl, E.out.1, E.out.2.1, F5.out.cell E.out.2.2.1 (by simpa using E.out.2.2.2.2)⟩, (F1.out.trans1 E.out.2.2.2.1).trans F5.out (fun x hx => by simp at hx; exact .inr (by omega))⟩
theorem may1_one (b cap : Nat) (w : World) (hc : w.cell? ⟨b, 0, none⟩ = some (.int .u32 1)) : Calls Try.prog 50 #[.agg #[.bool false, .slice (some ⟨b, 0, none⟩) 1 cap]] w fun e w' => e = .returned (.bool true) ∧ Frame [] w w' := by
  have c0 : ∀ o, (w.alloc o).cell? ⟨b, 0, none⟩ = some (.int .u32 1) := fun o => (Frame.alloc [] w o).cell hc (by simp)
  clear hc
  go_enter Try.func50, Try.ntmps50
  go_wp2_with fail
  go_ret
  exact ⟨rfl, Frame.alloc _ _ _⟩
theorem mayValue1_one (b cap : Nat) (w : World) (hc : w.cell? ⟨b, 0, none⟩ = some (.int .u32 1)) : Calls Try.prog 31 #[.agg #[.int .i64 1, .bool false, .slice (some ⟨b, 0, none⟩) 1 cap, .int .i64 0, .float .f64 0]] w fun e w' => e = .returned (.int .i64 0) ∧ Frame [] w w' := by
  have M := Lib.hid (fun w' (f : Frame [] w w') => may1_one b cap w' (f.cell hc (by simp)))
  clear hc
  have F0 := Lib.hid (Frame.alloc [] w (.cells #[.int .i64 1, .bool false, .slice (some ⟨b, 0, none⟩) 1 cap, .int .i64 0, .float .f64 0] 39))
  go_enter Try.func31, Try.ntmps31
  go_wp2_with fail
  refine (M.out _ F0.out).mono ?_
  rintro e w1 ⟨rfl, f1⟩
  go_wp2_with fail
  go_ret
  exact ⟨rfl, F0.out.trans1 f1⟩

set_option maxHeartbeats 4000000 in
set_option maxRecDepth 100000 in
theorem compare1_one (b1 c1 b2 c2 : Nat) (w : World) (h1 : w.cell? ⟨b1, 0, none⟩ = some (.int .u32 1)) (h2 : w.cell? ⟨b2, 0, none⟩ = some (.int .u32 1)) :
    Calls Try.prog 30 #[.agg #[.bool false, .slice (some ⟨b1, 0, none⟩) 1 c1], .agg #[.bool false, .slice (some ⟨b2, 0, none⟩) 1 c2]] w fun e w' => e = .returned (.int .i64 0) ∧ Frame [] w w' := by
  have K : ∀ (b c : Nat), w.cell? ⟨b, 0, none⟩ = some (.int .u32 1) → Hid (∀ w', Frame [] w w' → Calls Try.prog 33 #[.agg #[.bool false, .slice (some ⟨b, 0, none⟩) 1 c]] w' (CleanEnd w')) := fun b c h w' f =>
    clean_one b 1 c [1] w' (.inl rfl) rfl (fun k x hk => by
      match k, hk with
      | 0, hk => simp at hk; subst hk; exact f.cell h (by simp)
      | k + 1, hk => simp at hk)
  have K1 := K b1 c1 h1
  have K2 := K b2 c2 h2
  clear K h1 h2
  have B0 := (Blk.new w 36 #[.bool false, .slice (some ⟨b1, 0, none⟩) 1 c1]).alloc (.cells #[.bool false, .slice (some ⟨b2, 0, none⟩) 1 c2] 36)
  have B1 := Blk.new (w.alloc (.cells #[.bool false, .slice (some ⟨b1, 0, none⟩) 1 c1] 36)) 36 #[.bool false, .slice (some ⟨b2, 0, none⟩) 1 c2]
  have F0 : Hid (Frame [] w ((w.alloc (.cells #[.bool false, .slice (some ⟨b1, 0, none⟩) 1 c1] 36)).alloc (.cells #[.bool false, .slice (some ⟨b2, 0, none⟩) 1 c2] 36))) := by show Frame [] w _; (repeat first | assumption | exact Frame.refl _ _ | refine Frame.trans1 ?_ (Frame.alloc _ _ _) | refine Frame.trans1 ?_ (Frame.drew _ _) | refine Frame.trans1 ?_ (Frame.drewN _ _ _))
  simp only [World.size_alloc] at B1
  go_enter Try.func30, Try.ntmps30
  go_upto_region 1 with fail
  generalize (w.alloc (.cells #[.bool false, .slice (some ⟨b1, 0, none⟩) 1 c1] 36)).alloc (.cells #[.bool false, .slice (some ⟨b2, 0, none⟩) 1 c2] 36) = w1 at *
  have x0 := B0.at 0 rfl
  have x1 := B0.at 1 rfl
  have HB1 := Lib.hid B1
  clear B0 B1
  go_wp2_with fail
  refine (K1.out _ F0.out).mono ?_
  rintro e w2 ⟨v, rfl, ⟨b3, c3, rfl, p1, p2, h3⟩, f2⟩
  have B3 := Lib.hid (Blk.new w2 36 #[.bool false, .slice (some ⟨b3, 0, none⟩) 1 c3])
  have f23 : Frame [] w1 (w2.alloc (.cells #[.bool false, .slice (some ⟨b3, 0, none⟩) 1 c3] 36)) := f2.trans1 (Frame.alloc _ _ _)
  have H3 := Lib.hid ((Frame.alloc [] w2 (.cells #[.bool false, .slice (some ⟨b3, 0, none⟩) 1 c3] 36)).cell h3 (by simp))
  clear x0 x1 h3 f2
  go_upto_region 2 with fail
  generalize w2.alloc (.cells #[.bool false, .slice (some ⟨b3, 0, none⟩) 1 c3] 36) = w3 at *
  generalize w2.heap.size = q3 at *
  have x0 := (HB1.out.frame f23 (by simp)).at 0 rfl
  have x1 := (HB1.out.frame f23 (by simp)).at 1 rfl
  have F3 := Lib.hid (F0.out.trans1 f23)
  clear f23
  go_wp2_with fail
  refine (K2.out _ F3.out).mono ?_
  rintro e w4 ⟨v, rfl, ⟨b4, c4, rfl, p3, p4, h4⟩, f4⟩
  have B4 := Blk.new w4 36 #[.bool false, .slice (some ⟨b4, 0, none⟩) 1 c4]
  have f45 : Frame [] w3 (w4.alloc (.cells #[.bool false, .slice (some ⟨b4, 0, none⟩) 1 c4] 36)) := f4.trans1 (Frame.alloc _ _ _)
  have h4' := (Frame.alloc [] w4 (.cells #[.bool false, .slice (some ⟨b4, 0, none⟩) 1 c4] 36)).cell h4 (by simp)
  clear x0 x1 h4 f4 K1 K2
  go_upto_region 3 with fail
  generalize w4.alloc (.cells #[.bool false, .slice (some ⟨b4, 0, none⟩) 1 c4] 36) = w5 at *
  generalize w4.heap.size = q4 at *
  have y0 := (B3.out.frame f45 (by simp)).at 0 rfl
  have y1 := (B3.out.frame f45 (by simp)).at 1 rfl
  have z0 := B4.at 0 rfl
  have z1 := B4.at 1 rfl
  have h3 := f45.cell H3.out (by simp)
  have F5 := Lib.hid (F3.out.trans1 f45)
  have R5 := Lib.hid (And.intro y0 (And.intro y1 (And.intro z0 (And.intro z1 (And.intro h3 h4')))))
  clear B4 f45
  go_wp2_with fail
  clear y0 y1 z0 z1 h3 h4'
  go_loopw [7] (fun i wr => ∃ k : Int, (k = 0 ∨ k = -1) ∧ i = .int .i64 k ∧ Hid (Frame [] w5 wr)) (fun i _ => (intOf i + 1).toNat)
  case atStart => exact ⟨0, .inl rfl, rfl, Lib.hid (Frame.refl _ _)⟩
  case round =>
    rename World => wr
    obtain ⟨k, hk, rfl, hR⟩ := hrel
    have y0 := hR.out.cell R5.out.1 (by simp)
    have y1 := hR.out.cell R5.out.2.1 (by simp)
    have z0 := hR.out.cell R5.out.2.2.1 (by simp)
    have z1 := hR.out.cell R5.out.2.2.2.1 (by simp)
    have h3 := hR.out.cell R5.out.2.2.2.2.1 (by simp)
    have h4 := hR.out.cell R5.out.2.2.2.2.2 (by simp)
    rcases hk with rfl | rfl
    · go_wp2_with fail
      go_region
      all_goals
        go_wp2_with fail
        go_roundw
        case rel => exact ⟨-1, .inr rfl, by first | rfl | go_num, Lib.hid (hR.out.trans1 (by (repeat first | assumption | exact Frame.refl _ _ | refine Frame.trans1 ?_ (Frame.alloc _ _ _) | refine Frame.trans1 ?_ (Frame.drew _ _) | refine Frame.trans1 ?_ (Frame.drewN _ _ _))))⟩
        case measure => simp [intOf]
    · go_wp2_with fail
      go_ret
      exact ⟨rfl, F5.out.trans1 hR.out⟩
set_option maxRecDepth 100000 in
theorem alike1_one (b1 c1 b2 c2 : Nat) (w : World) (h1 : w.cell? ⟨b1, 0, none⟩ = some (.int .u32 1)) (h2 : w.cell? ⟨b2, 0, none⟩ = some (.int .u32 1)) :
    Calls Try.prog 11 #[.agg #[.int .i64 1, .bool false, .slice (some ⟨b1, 0, none⟩) 1 c1, .int .i64 0, .float .f64 0], .agg #[.int .i64 1, .bool false, .slice (some ⟨b2, 0, none⟩) 1 c2, .int .i64 0, .float .f64 0]] w fun e w' => e = .returned (.bool true) ∧ Frame [] w w' := by
  have M1 := Lib.hid (fun w' (f : Frame [] w w') => mayValue1_one b1 c1 w' (f.cell h1 (by simp)))
  have M2 := Lib.hid (fun w' (f : Frame [] w w') => mayValue1_one b2 c2 w' (f.cell h2 (by simp)))
  have CM := Lib.hid (fun w' (f : Frame [] w w') => compare1_one b1 c1 b2 c2 w' (f.cell h1 (by simp)) (f.cell h2 (by simp)))
  clear h1 h2
  have B0 := (Blk.new w 39 #[.int .i64 1, .bool false, .slice (some ⟨b1, 0, none⟩) 1 c1, .int .i64 0, .float .f64 0]).alloc (.cells #[.int .i64 1, .bool false, .slice (some ⟨b2, 0, none⟩) 1 c2, .int .i64 0, .float .f64 0] 39)
  have B1 := Blk.new (w.alloc (.cells #[.int .i64 1, .bool false, .slice (some ⟨b1, 0, none⟩) 1 c1, .int .i64 0, .float .f64 0] 39)) 39 #[.int .i64 1, .bool false, .slice (some ⟨b2, 0, none⟩) 1 c2, .int .i64 0, .float .f64 0]
  have F0 : Hid (Frame [] w ((w.alloc (.cells #[.int .i64 1, .bool false, .slice (some ⟨b1, 0, none⟩) 1 c1, .int .i64 0, .float .f64 0] 39)).alloc (.cells #[.int .i64 1, .bool false, .slice (some ⟨b2, 0, none⟩) 1 c2, .int .i64 0, .float .f64 0] 39))) := by show Frame [] w _; (repeat first | assumption | exact Frame.refl _ _ | refine Frame.trans1 ?_ (Frame.alloc _ _ _) | refine Frame.trans1 ?_ (Frame.drew _ _) | refine Frame.trans1 ?_ (Frame.drewN _ _ _))
  simp only [World.size_alloc] at B1
  go_enter Try.func11, Try.ntmps11
  go_wp2_with fail
  generalize (w.alloc (.cells #[.int .i64 1, .bool false, .slice (some ⟨b1, 0, none⟩) 1 c1, .int .i64 0, .float .f64 0] 39)).alloc (.cells #[.int .i64 1, .bool false, .slice (some ⟨b2, 0, none⟩) 1 c2, .int .i64 0, .float .f64 0] 39) = w1 at *
  refine (M1.out _ F0.out).mono ?_
  rintro e w2 ⟨rfl, f2⟩
  have C0 := B0.frame f2 (by simp)
  have C1 := B1.frame f2 (by simp)
  have x0 := C1.at 0 rfl
  have x1 := C1.at 1 rfl
  have x2 := C1.at 2 rfl
  have x3 := C1.at 3 rfl
  have x4 := C1.at 4 rfl
  have HC0 := Lib.hid C0
  have HC1 := Lib.hid C1
  have F2 := Lib.hid (F0.out.trans1 f2)
  clear B0 B1 C0 C1 f2 M1
  go_wp2_with fail
  refine (M2.out _ F2.out).mono ?_
  rintro e w3 ⟨rfl, f3⟩
  have D0 := HC0.out.frame f3 (by simp)
  have D1 := HC1.out.frame f3 (by simp)
  have x0 := D0.at 0 rfl
  have x1 := D0.at 1 rfl
  have x2 := D0.at 2 rfl
  have y0 := D1.at 0 rfl
  have y1 := D1.at 1 rfl
  have y2 := D1.at 2 rfl
  have F3 := Lib.hid (F2.out.trans1 f3)
  clear D0 D1 f3 M2
  go_wp2_with fail
  refine (CM.out _ F3.out).mono ?_
  rintro e w4 ⟨rfl, f4⟩
  go_wp2_with fail
  go_ret
  exact ⟨rfl, F3.out.trans1 f4⟩
end Go.Proofs.Ytbnhhmejlglbcaa

namespace Go.Proofs.Ytbnhhmejlglbcaa
open Go.RowKit
set_option linter.unusedSimpArgs false
set_option linter.unusedVariables false

def MadeEnd14 (l : List Gt) (w : World) (e : Ending) (w' : World) : Prop := ∃ pb rb, e = .returned (.tuple #[.pointer (some ⟨pb, 0, none⟩), .pointer (some ⟨rb, 0, none⟩), .bool true]) ∧ BSg [] (fun _ => True) w pb rb l (1000 - l.length) l 1000 w'
set_option maxHeartbeats 4000000 in
set_option maxRecDepth 100000 in
theorem made14_any (a : Option Addr) (cap : Nat) (xs : List St3) (w : World) (hx : RdS w 3 St3.enc St3.ok a xs) (hl : xs.length ≤ 60) :
    Calls Try.prog 5 #[.slice a xs.length cap] w fun e w' => MadeEnd14 (gatesM xs) w e w' := by
  have HX := Lib.hid hx
  clear hx
  go_enter Try.func5, Try.ntmps5
  go_wp2_with fail
  refine (new_any 1000 _).mono ?_
  rintro e w2 ⟨pb, rfl, F2, s2, f2, n2⟩
  have A2 := Lib.hid (And.intro s2 (And.intro f2 n2))
  clear s2 f2 n2
  go_wp2_with fail
  refine (rnew_any 1000 _).mono ?_
  rintro e w3 ⟨rb, F3, rfl, s3, f3, n3⟩
  have hB : BSg [] (fun _ => True) w pb rb init (1000 - init.length) init 1000 w3 := by
    refine ⟨F2, F3, ?_, by rw [show (1000 : Int) = room 1000 + 2 from by decide]; exact s3, A2.out.2.1.trans1 f3, fun x hx => A2.out.2.2 x hx, fun x hx => Nat.le_trans A2.out.2.1.size (n3 x hx), fun x hx hm => ?_, trivial, by simp⟩
    · have := A2.out.1.frame0 f3
      have e : (1000 : Int) - (init.length : Int) = room 1000 := by decide
      rw [e]; exact this
    · have h1 := A2.out.1.lt x hx
      have h2 := n3 x hm
      omega
  have B0 := Lib.hid hB
  clear hB s3 f3 n3 A2
  have hl60 : decide ((60 : Int) < xs.length) = false := decide_eq_false (by omega)
  go_wp2_with fail
  go_loopw [7, 8, 9, 10, 11] (fun i _ _ _ _ wr => ∃ (j : Nat) (l : List Gt), j ≤ xs.length ∧ i = .int .i64 j ∧ Hid (l = gatesM (xs.take j) ∧ BSg [] (fun _ => True) w pb rb l (1000 - l.length) l 1000 wr)) (fun i _ _ _ _ _ => xs.length - (intOf i).toNat)
  case atStart => exact ⟨0, init, Nat.zero_le _, rfl, Lib.hid ⟨rfl, B0.out⟩⟩
  case round =>
    rename World => wr
    obtain ⟨j, l, hj, rfl, hG⟩ := hrel
    have mok := gatesM_ok (xs.take j)
    rw [← hG.out.1] at mok
    have hl1 := mok.len
    have hl2 := mok.two
    rw [List.length_take] at hl1
    by_cases hlt : j < xs.length
    · have hjs : xs[j]? = some xs[j] := by simp [hlt]
      obtain ⟨b', off, rfl, hc, hok⟩ := (HX.out.frame hG.out.2.frame (fun x => St3.ok_frame hG.out.2.frame x)).at hlt
      have c0 := hc 0 _ rfl
      have c1 := hc 1 _ rfl
      have c2 := hc 2 _ rfl
      simp only [Nat.add_zero] at c0
      generalize xs[j] = s at *
      have HJ := Lib.hid (And.intro hjs hG.out.1)
      have B := Lib.hid hG.out.2
      obtain ⟨Fq, Fr, -, qr, -⟩ := id B.out
      obtain ⟨ra, rc, rG, rb1, -, -, -⟩ := qr
      have z0 := rb1.at 0 rfl
      obtain ⟨o1, o2, o3⟩ := hok
      obtain ⟨sk, sa, sb⟩ := s
      simp only [okI] at o1 o2 o3
      have RA := Lib.hid (fun w => round_any sa l.length w (by omega) (by omega) (by omega) (by omega))
      have RB := Lib.hid (fun w => round_any sb l.length w (by omega) (by omega) (by omega) (by omega))
      have R6 := Lib.hid (fun w => round_any sa 6 w (by omega) (by omega) (by omega) (by omega))
      clear hc hjs mok B0 rb1 hG
      go_wp2_with fail
      refine (RA.out _).mono ?_
      rintro e wq ⟨rfl, rfl⟩
      go_wp2_with fail
      refine (RB.out _).mono ?_
      rintro e wq ⟨rfl, rfl⟩
      by_cases k1 : sk = 1
      · subst k1
        have e : opS (St3.stp ⟨1, sa, sb⟩ l.length) l (1000 - l.length) = mkVar (1 + sa % 6) l (1000 - l.length) := by simp [opS, St3.stp]
        have hs1 : stepM l ⟨1, sa, sb⟩ = (mkVar (1 + sa % 6) l (1000 - l.length)).2.1 := by rw [stepM, e]
        have hs2 : (mkVar (1 + sa % 6) l (1000 - l.length)).2.2 = 1000 - (stepM l ⟨1, sa, sb⟩).length := by rw [← e]; exact stepM_left l ⟨1, sa, sb⟩
        have hv := fun w1 h => BSg.var (w0 := w) (w := w1) (pb := pb) (rb := rb) (l1 := l) (left := 1000 - l.length) (l2 := l) (bud := 1000) keep_none h (1 + sa % 6) (by omega)
        have hr := fun w1 l1 left h => BSg.rvar (w0 := w) (w := w1) (pb := pb) (rb := rb) (l1 := l1) (left := left) (l2 := l) (bud := 1000) keep_none h (1 + sa % 6) (by omega)
        generalize mkVar (1 + sa % 6) l (1000 - l.length) = q at *
        obtain ⟨⟨q1, q2⟩, ql, qf⟩ := q
        simp only at hs1 hs2 hv hr
        subst hs2
        have HS1 := Lib.hid hs1
        have HV := Lib.hid hv
        have HR := Lib.hid hr
        clear hs1 hv hr e
        have e6 : IntKind.i64.wrap (1 + sa % 6) = 1 + sa % 6 := IntWalk.i64_in _ (by omega)
        go_wp2_with fail
        refine (R6.out _).mono ?_
        rintro e wq ⟨rfl, rfl⟩
        go_wp2_with fail
        refine (HV.out _ B.out).mono ?_
        rintro e w5 ⟨rfl, b5⟩
        have B5 := Lib.hid b5
        clear b5 HV
        go_wp2_with fail
        refine (HR.out _ _ _ B5.out).mono ?_
        rintro e w6 ⟨rfl, b6⟩
        have B6 := Lib.hid b6
        clear b6 HR B5
        go_wp2_with fail
        go_roundw
        case rel => exact ⟨j + 1, ql, by omega, by first | rfl | go_num, Lib.hid ⟨by rw [gatesM_take HJ.out.1, ← HJ.out.2, HS1.out], by rw [← HS1.out] at *; exact B6.out⟩⟩
        case measure => first | (simp [intOf]; done) | (simp [intOf]; omega)
      by_cases k2 : sk = 2
      · subst k2
        have e : opS (St3.stp ⟨2, sa, sb⟩ l.length) l (1000 - l.length) = mkPlus (sa % l.length) (sb % l.length) l (1000 - l.length) := by simp [opS, St3.stp]
        have hs1 : stepM l ⟨2, sa, sb⟩ = (mkPlus (sa % l.length) (sb % l.length) l (1000 - l.length)).2.1 := by rw [stepM, e]
        have hs2 : (mkPlus (sa % l.length) (sb % l.length) l (1000 - l.length)).2.2 = 1000 - (stepM l ⟨2, sa, sb⟩).length := by rw [← e]; exact stepM_left l ⟨2, sa, sb⟩
        have hv := fun w1 h => BSg.plus (w0 := w) (w := w1) (pb := pb) (rb := rb) (l1 := l) (left := 1000 - l.length) (l2 := l) (bud := 1000) keep_none h (sa % l.length) (sb % l.length) (by omega)
        have hr := fun w1 l1 left h => BSg.rplus (w0 := w) (w := w1) (pb := pb) (rb := rb) (l1 := l1) (left := left) (l2 := l) (bud := 1000) keep_none h (sa % l.length) (sb % l.length) (by omega)
        generalize mkPlus (sa % l.length) (sb % l.length) l (1000 - l.length) = q at *
        obtain ⟨⟨q1, q2⟩, ql, qf⟩ := q
        simp only at hs1 hs2 hv hr
        subst hs2
        have HS1 := Lib.hid hs1
        have HV := Lib.hid hv
        have HR := Lib.hid hr
        clear hs1 hv hr e
        go_wp2_with fail
        refine (HV.out _ B.out).mono ?_
        rintro e w5 ⟨rfl, b5⟩
        have B5 := Lib.hid b5
        clear b5 HV
        go_wp2_with fail
        refine (HR.out _ _ _ B5.out).mono ?_
        rintro e w6 ⟨rfl, b6⟩
        have B6 := Lib.hid b6
        clear b6 HR B5
        go_wp2_with fail
        go_roundw
        case rel => exact ⟨j + 1, ql, by omega, by first | rfl | go_num, Lib.hid ⟨by rw [gatesM_take HJ.out.1, ← HJ.out.2, HS1.out], by rw [← HS1.out] at *; exact B6.out⟩⟩
        case measure => first | (simp [intOf]; done) | (simp [intOf]; omega)
      by_cases k3 : sk = 3
      · subst k3
        have e : opS (St3.stp ⟨3, sa, sb⟩ l.length) l (1000 - l.length) = mkTimes (sa % l.length) (sb % l.length) l (1000 - l.length) := by simp [opS, St3.stp]
        have hs1 : stepM l ⟨3, sa, sb⟩ = (mkTimes (sa % l.length) (sb % l.length) l (1000 - l.length)).2.1 := by rw [stepM, e]
        have hs2 : (mkTimes (sa % l.length) (sb % l.length) l (1000 - l.length)).2.2 = 1000 - (stepM l ⟨3, sa, sb⟩).length := by rw [← e]; exact stepM_left l ⟨3, sa, sb⟩
        have hv := fun w1 h => BSg.times (w0 := w) (w := w1) (pb := pb) (rb := rb) (l1 := l) (left := 1000 - l.length) (l2 := l) (bud := 1000) keep_none h (sa % l.length) (sb % l.length) (by omega)
        have hr := fun w1 l1 left h => BSg.rtimes (w0 := w) (w := w1) (pb := pb) (rb := rb) (l1 := l1) (left := left) (l2 := l) (bud := 1000) keep_none h (sa % l.length) (sb % l.length) (by omega)
        generalize mkTimes (sa % l.length) (sb % l.length) l (1000 - l.length) = q at *
        obtain ⟨⟨q1, q2⟩, ql, qf⟩ := q
        simp only at hs1 hs2 hv hr
        subst hs2
        have HS1 := Lib.hid hs1
        have HV := Lib.hid hv
        have HR := Lib.hid hr
        clear hs1 hv hr e
        go_wp2_with fail
        refine (HV.out _ B.out).mono ?_
        rintro e w5 ⟨rfl, b5⟩
        have B5 := Lib.hid b5
        clear b5 HV
        go_wp2_with fail
        refine (HR.out _ _ _ B5.out).mono ?_
        rintro e w6 ⟨rfl, b6⟩
        have B6 := Lib.hid b6
        clear b6 HR B5
        go_wp2_with fail
        go_roundw
        case rel => exact ⟨j + 1, ql, by omega, by first | rfl | go_num, Lib.hid ⟨by rw [gatesM_take HJ.out.1, ← HJ.out.2, HS1.out], by rw [← HS1.out] at *; exact B6.out⟩⟩
        case measure => first | (simp [intOf]; done) | (simp [intOf]; omega)
      by_cases k4 : sk = 4
      · subst k4
        have e : opS (St3.stp ⟨4, sa, sb⟩ l.length) l (1000 - l.length) = mkStar (sa % l.length) l (1000 - l.length) := by simp [opS, St3.stp]
        have hs1 : stepM l ⟨4, sa, sb⟩ = (mkStar (sa % l.length) l (1000 - l.length)).2.1 := by rw [stepM, e]
        have hs2 : (mkStar (sa % l.length) l (1000 - l.length)).2.2 = 1000 - (stepM l ⟨4, sa, sb⟩).length := by rw [← e]; exact stepM_left l ⟨4, sa, sb⟩
        have hv := fun w1 h => BSg.star (w0 := w) (w := w1) (pb := pb) (rb := rb) (l1 := l) (left := 1000 - l.length) (l2 := l) (bud := 1000) keep_none h (sa % l.length) (by omega)
        have hr := fun w1 l1 left h => BSg.rstar (w0 := w) (w := w1) (pb := pb) (rb := rb) (l1 := l1) (left := left) (l2 := l) (bud := 1000) keep_none h (sa % l.length) (by omega)
        generalize mkStar (sa % l.length) l (1000 - l.length) = q at *
        obtain ⟨⟨q1, q2⟩, ql, qf⟩ := q
        simp only at hs1 hs2 hv hr
        subst hs2
        have HS1 := Lib.hid hs1
        have HV := Lib.hid hv
        have HR := Lib.hid hr
        clear hs1 hv hr e
        go_wp2_with fail
        refine (HV.out _ B.out).mono ?_
        rintro e w5 ⟨rfl, b5⟩
        have B5 := Lib.hid b5
        clear b5 HV
        go_wp2_with fail
        refine (HR.out _ _ _ B5.out).mono ?_
        rintro e w6 ⟨rfl, b6⟩
        have B6 := Lib.hid b6
        clear b6 HR B5
        go_wp2_with fail
        go_roundw
        case rel => exact ⟨j + 1, ql, by omega, by first | rfl | go_num, Lib.hid ⟨by rw [gatesM_take HJ.out.1, ← HJ.out.2, HS1.out], by rw [← HS1.out] at *; exact B6.out⟩⟩
        case measure => first | (simp [intOf]; done) | (simp [intOf]; omega)
      · have hs1 : stepM l ⟨sk, sa, sb⟩ = l := by
          have h0 : (if 1 ≤ sk ∧ sk ≤ 4 then sk else 0) = 0 := by split <;> omega
          simp [stepM, opS, St3.stp, h0]
        have HS1 := Lib.hid hs1
        have b1 : (sk == 1) = false := by simp [k1]
        have b2 : (sk == 2) = false := by simp [k2]
        have b3 : (sk == 3) = false := by simp [k3]
        have b4 : (sk == 4) = false := by simp [k4]
        clear hs1 k1 k2 k3 k4
        go_wp2_with fail
        go_roundw
        case rel => exact ⟨j + 1, l, by omega, by first | rfl | go_num, Lib.hid ⟨by rw [gatesM_take HJ.out.1, ← HJ.out.2, HS1.out], B.out⟩⟩
        case measure => first | (simp [intOf]; done) | (simp [intOf]; omega)
    · obtain rfl : j = xs.length := by omega
      have B := Lib.hid hG.out.2
      obtain ⟨Fq, Fr, qs, qr, -⟩ := id B.out
      have LN := Lib.hid qs.lens
      obtain ⟨ra, rc, rG, rb1, -, -, -⟩ := qr
      have he : Hid (l = gatesM xs) := by have := hG.out.1; rw [List.take_length] at this; exact this
      have y0 := framed_cell (rb1.at 0 rfl)
      have LEN := Lib.hid (fun w' (f : Frame [] wr w') => LN.out w' f)
      clear qs rb1 hG mok B0
      go_wp2_with fail
      refine wp_region_framed (by kernel_rfl) (by kernel_rfl) ?_
      repeat (go_big_quiet_step (exact framed_same (LEN.out _ (FramedBy.h _))))
      refine wpQuiet_nil ?_
      intro w6 hw
      have f6 := framed_out hw
      clear hw
      go_wp2_with fail
      refine bodyPost_ret (v := .tuple #[.pointer (some ⟨pb, 0, none⟩), .pointer (some ⟨rb, 0, none⟩), .bool true]) (by simp [results, Try.results5, go_sem]) rfl ⟨pb, rb, rfl, by rw [← he.out]; exact B.out.quiet keep_none f6⟩
end Go.Proofs.Ytbnhhmejlglbcaa

namespace Go.Proofs.Ytbnhhmejlglbcaa
open Go.RowKit
set_option linter.unusedSimpArgs false
set_option linter.unusedVariables false

def st14 : List St3 := [⟨1, 0, 0⟩, ⟨4, 2, 0⟩]
def gt14 : List Gt := gatesM st14
theorem gt14_facts : gt14.length = 4 ∧ reach gt14 3 = [2, 3] ∧ gt14[2]? = some ⟨3, 1, 0⟩ ∧ gt14[3]? = some ⟨6, 2, 0⟩ ∧
    worth rgC (killed rgC (fun _ => rgC.o) fun t => decide (t ∈ ([] : List Int))) gt14 2 = C3.one ∧ worth rgC (killed rgC (fun _ => rgC.o) fun t => decide (t ∈ ([] : List Int))) gt14 3 = C3.inf ∧
    worth rgC (killed rgC (fun _ => rgC.o) fun t => decide (t ∈ ([1] : List Int))) gt14 2 = C3.zero ∧ worth rgC (killed rgC (fun _ => rgC.o) fun t => decide (t ∈ ([1] : List Int))) gt14 3 = C3.one := by decide +kernel
theorem st14_row (w : World) : RdS (w.alloc (.cells #[.int .i64 1, .int .i64 0, .int .i64 0, .int .i64 4, .int .i64 2, .int .i64 0] 48)) 3 St3.enc St3.ok (some ⟨w.heap.size, 0, none⟩) st14 := by
  have h := Blk.new w 48 #[.int .i64 1, .int .i64 0, .int .i64 0, .int .i64 4, .int .i64 2, .int .i64 0]
  refine .inr ⟨w.heap.size, 0, rfl, by simp, fun k hk => ⟨fun j u hu => ?_, ?_⟩⟩
  · match k, hk, j, hu with
    | 0, _, 0, hu => exact (h.cell 0).trans hu
    | 0, _, 1, hu => exact (h.cell 1).trans hu
    | 0, _, 2, hu => exact (h.cell 2).trans hu
    | 1, _, 0, hu => exact (h.cell 3).trans hu
    | 1, _, 1, hu => exact (h.cell 4).trans hu
    | 1, _, 2, hu => exact (h.cell 5).trans hu
    | 0, _, j + 3, hu => simp [st14, St3.enc] at hu
    | 1, _, j + 3, hu => simp [st14, St3.enc] at hu
    | k + 2, hk, _, _ => exact absurd hk (by simp [st14])
  · match k, hk with
    | 0, _ => simp [st14, St3.ok, okI]
    | 1, _ => simp [st14, St3.ok, okI]
    | k + 2, hk => exact absurd hk (by simp [st14])
theorem fit14 {W : Int → C3} (h2 : worth rgC W gt14 2 ≠ .inf) : ∀ k ∈ reach gt14 3, ∀ g, gt14[k]? = some g → FitG (fun _ _ => False) (fun _ _ => False) (fun x => x ≠ C3.inf) (worth rgC W gt14) g := by
  obtain ⟨-, hr, g2, g3, -⟩ := gt14_facts
  intro k hk g hg
  rw [hr] at hk
  simp at hk
  rcases hk with rfl | rfl
  · rw [g2] at hg; cases hg; exact ⟨by simp, by simp, by simp⟩
  · rw [g3] at hg; cases hg; exact ⟨by simp, by simp, fun _ => h2⟩

set_option maxHeartbeats 4000000 in
set_option maxRecDepth 100000 in
theorem awake14 (w : World) : Calls Try.prog 4 #[] w fun e w' => e = .returned (.bool true) ∧ Frame [] w w' := by
  have hst := fun (w : World) (a : Addr) (q : Nat) (m : Mode) => run_store Try.prog w a (.float .f64 q) m rfl
  obtain ⟨p1, -, -, -, p5, p6, p7, p8⟩ := gt14_facts
  have ft1 := fit14 (W := killed rgC (fun _ => rgC.o) fun t => decide (t ∈ ([] : List Int))) (by rw [p5]; simp)
  have ft2 := fit14 (W := killed rgC (fun _ => rgC.o) fun t => decide (t ∈ ([1] : List Int))) (by rw [p7]; simp)
  have hMA := fun w' a hx => made14_any a 2 st14 w' hx (by decide)
  have hok : MOk (gatesM st14) 2 := gatesM_ok st14
  have HOK := Lib.hid hok
  have e15 : gatesM st14 = gt14 := rfl
  rw [e15] at HOK hMA
  generalize gt14 = l at *
  have MA := Lib.hid hMA
  have P := Lib.hid (And.intro p1 (And.intro p6 (And.intro p8 (And.intro ft1 ft2))))
  clear hMA hok e15 p1 p5 p6 p7 p8 ft1 ft2
  go_enter Try.func4, Try.ntmps4
  go_wp2_with fail
  refine (MA.out _ (some ⟨w.heap.size, 0, none⟩) (st14_row w)).mono ?_
  rintro e w2 ⟨pb, rb, rfl, b2⟩
  obtain ⟨F, F2, s2, -, f2, n2, -⟩ := b2
  have A := Lib.hid (And.intro s2 f2)
  clear s2 f2 n2 MA
  have W1 := Lib.hid (fun w' (f : Frame [] w2 w') => evWithout_nil semOk_cnt (fun _ => C3.zero) pb F l (1000 - l.length) HOK.out.inv 3 (by have := P.out.1; omega) (by have := P.out.1; omega) 0 none 0 [] w' (A.out.1.frame0 f) (.inl rfl) (by simp) P.out.2.2.2.1)
  have W2 := Lib.hid (fun w' (f : Frame [] w2 w') a (h : RdI w' a [1]) => evWithout_nil semOk_cnt (fun _ => C3.zero) pb F l (1000 - l.length) HOK.out.inv 3 (by have := P.out.1; omega) (by have := P.out.1; omega) 0 a 1 [1] w' (A.out.1.frame0 f) h (by simp) P.out.2.2.2.2)
  rw [P.out.2.1] at W1
  rw [P.out.2.2.1] at W2
  have AT := Lib.hid (evAt_nil semOk_cnt pb 3 C3.inf none 0 0 w2 (fun w' f => W1.out w' f))
  clear W1
  go_wp2_with fail
  refine AT.out.mono ?_
  rintro e w3 ⟨u, rfl, hu, f3⟩
  have hu' : u = .agg #[.int .i64 1, .bool true, .slice none 0 0, .int .i64 0, .float .f64 0] := hu
  subst hu'
  have F3 := Lib.hid f3
  clear f3 hu AT
  have B3 := Lib.hid (Blk.new w3 39 #[.int .i64 1, .bool true, .slice none 0 0, .int .i64 0, .float .f64 0])
  have F3b := Lib.hid (F3.out.trans1 (Frame.alloc [] w3 (.cells #[.int .i64 1, .bool true, .slice none 0 0, .int .i64 0, .float .f64 0] 39)))
  go_upto_region 5 with fail
  generalize w3.alloc (.cells #[.int .i64 1, .bool true, .slice none 0 0, .int .i64 0, .float .f64 0] 39) = w4 at *
  generalize w3.heap.size = q4 at *
  go_wp2_with fail
  refine (W2.out _ (F3b.out.trans1 (Frame.alloc _ _ _)) (some ⟨w4.heap.size, 0, none⟩) (RdI.one _ _ _)).mono ?_
  rintro e w5 ⟨u, rfl, ⟨b, rfl, hb⟩, f5⟩
  have f45 : Frame [] w4 (w5.alloc (.cells #[.int .i64 1, .bool false, .slice (some ⟨b, 0, none⟩) 1 2, .int .i64 0, .float .f64 0] 39)) := ((Frame.alloc [] w4 (.cells #[.int .i64 1] 3)).trans1 f5).trans1 (Frame.alloc _ _ _)
  have B5 := Blk.new w5 39 #[.int .i64 1, .bool false, .slice (some ⟨b, 0, none⟩) 1 2, .int .i64 0, .float .f64 0]
  have hb' := hb.alloc (.cells #[.int .i64 1, .bool false, .slice (some ⟨b, 0, none⟩) 1 2, .int .i64 0, .float .f64 0] 39)
  clear hb f5 W2
  go_upto_region 6 with fail
  generalize w5.alloc (.cells #[.int .i64 1, .bool false, .slice (some ⟨b, 0, none⟩) 1 2, .int .i64 0, .float .f64 0] 39) = w6 at *
  generalize w5.heap.size = q6 at *
  have M1 : ∀ w', Frame [] w6 w' → w'.cell? ⟨q4, 1, none⟩ = some (.bool true) := fun w' q => (B3.out.frame (f45.trans1 q) (by simp)).at 1 rfl
  have N0 : ∀ w', Frame [] w6 w' → w'.cell? ⟨q6, 0, none⟩ = some (.int .i64 1) := fun w' q => (B5.frame q (by simp)).at 0 rfl
  have N1 : ∀ w', Frame [] w6 w' → w'.cell? ⟨q6, 1, none⟩ = some (.bool false) := fun w' q => (B5.frame q (by simp)).at 1 rfl
  have N2 : ∀ w', Frame [] w6 w' → w'.cell? ⟨q6, 2, none⟩ = some (.slice (some ⟨b, 0, none⟩) 1 2) := fun w' q => (B5.frame q (by simp)).at 2 rfl
  have N3 : ∀ w', Frame [] w6 w' → w'.cell? ⟨q6, 3, none⟩ = some (.int .i64 0) := fun w' q => (B5.frame q (by simp)).at 3 rfl
  have N4 : ∀ w', Frame [] w6 w' → w'.cell? ⟨q6, 4, none⟩ = some (.float .f64 0) := fun w' q => (B5.frame q (by simp)).at 4 rfl
  have CB := Lib.hid (fun w' (q : Frame [] w6 w') => (hb'.frame q (by simp)).at 0 rfl)
  have F6 := Lib.hid (F3b.out.trans1 f45)
  clear f45 B5 hb' B3
  go_region_held3 (fun w' => Frame [] w6 w') ((repeat first | assumption | exact Frame.refl _ _ | refine Frame.trans1 ?_ (Frame.alloc _ _ _) | refine Frame.trans1 ?_ (Frame.drew _ _) | refine Frame.trans1 ?_ (Frame.drewN _ _ _))) (first
    | (go_at_call 12; refine (ofNat1_one _).mono ?_; rintro e w7 ⟨v7, rfl, ⟨b7, c7, rfl, p7, p8, h7⟩, f7⟩; have F7 : Frame [] w6 w7 := (show Frame [] w6 _ from by (repeat first | assumption | exact Frame.refl _ _ | refine Frame.trans1 ?_ (Frame.alloc _ _ _) | refine Frame.trans1 ?_ (Frame.drew _ _) | refine Frame.trans1 ?_ (Frame.drewN _ _ _))).trans1 f7; have H7 := Lib.hid h7; clear h7 f7)
    | (go_at_call 11; refine (alike1_one _ _ _ _ _ (CB.out _ (by (repeat first | assumption | exact Frame.refl _ _ | refine Frame.trans1 ?_ (Frame.alloc _ _ _) | refine Frame.trans1 ?_ (Frame.drew _ _) | refine Frame.trans1 ?_ (Frame.drewN _ _ _)))) ((show Frame [] w7 _ from by (repeat first | assumption | exact Frame.refl _ _ | refine Frame.trans1 ?_ (Frame.alloc _ _ _) | refine Frame.trans1 ?_ (Frame.drew _ _) | refine Frame.trans1 ?_ (Frame.drewN _ _ _))).cell H7.out (by simp))).mono ?_; rintro e w8 ⟨rfl, f8⟩; have F8 : Frame [] w6 w8 := (show Frame [] w6 _ from by (repeat first | assumption | exact Frame.refl _ _ | refine Frame.trans1 ?_ (Frame.alloc _ _ _) | refine Frame.trans1 ?_ (Frame.drew _ _) | refine Frame.trans1 ?_ (Frame.drewN _ _ _))).trans1 f8))
  go_wp2_with fail
  go_ret
  exact ⟨rfl, ((Frame.alloc [] w _).trans1 A.out.2).trans1 (F6.out.trans1 F8)⟩
end Go.Proofs.Ytbnhhmejlglbcaa

