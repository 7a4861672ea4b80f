/- tansyref1 at the number 1. -/
import Derived.Test.YtfplakdingfccaaGreatMe39
import Derived.Test.YtfplakdingfccaaGreatMe41
namespace Go.Proofs.YtfplakdingfccaaGreat
open Go.RowKit
set_option linter.unusedSimpArgs false
set_option linter.unusedVariables false

def encU (x : Int) : List Value := [.int .u32 x]
theorem encU_len (n : Int) : (encU n).length = 1 := rfl
theorem encU_one (n : Int) : ∀ u ∈ encU n, u.oneCell' = true := by simp [encU, Value.oneCell']
theorem infoU32 : (Tryz.prog.info? 107).map (fun i => (i.zero, i.size, i.bytes)) = some (some (.int .u32 0), 1, 4) := by kernel_rfl
theorem slCap {α : Type} {w : World} {e sz : Nat} {enc : α → List Value} {a : Option Addr} {n c : Nat} {xs : List α} {G : List Nat} (h : Sl w e sz enc (.slice a n c) xs G) : n ≤ c ∧ c ≤ maxLen := by
  rcases h with ⟨h1, _⟩ | ⟨b, cap, h1, _, h3⟩
  · injection h1 with _ e1 e2
    subst e1 e2
    exact ⟨Nat.le_refl _, by unfold maxLen; omega⟩
  · injection h1 with _ e1 e2
    subst e1 e2
    obtain ⟨cs, _, h4, h5, _⟩ := h3.blk
    exact ⟨h4, h5⟩
/-- The number 1, its first digit read. -/
def NOne (w : World) (v : Value) : Prop := ∃ b cap, v = .agg #[.bool false, .slice (some ⟨b, 0, none⟩) 1 cap] ∧ 1 ≤ cap ∧ cap ≤ 9223372036854775807 ∧ w.cell? ⟨b, 0, none⟩ = some (.int .u32 1)
theorem NOne.frame {w w' : World} {v : Value} (h : NOne w v) (f : Frame [] w w') : NOne w' v := by
  obtain ⟨b, cap, h1, h2, h3, h4⟩ := h
  exact ⟨b, cap, h1, h2, h3, f.cell h4 (by simp)⟩
def CleanEnd (w : World) (e : Ending) (w' : World) : Prop := ∃ v, e = .returned v ∧ NOne w' v ∧ Frame [] w w'

set_option maxHeartbeats 4000000 in
set_option maxRecDepth 100000 in
theorem clean_one (b n cap : Nat) (xs : List Int) (w : World) (hn : xs = [1] ∨ xs = [1, 0]) (hx : xs.length = n) (hc : ∀ k x, xs[k]? = some x → w.cell? ⟨b, k, none⟩ = some (.int .u32 x)) :
    Calls Tryz.prog 82 #[.agg #[.bool false, .slice (some ⟨b, 0, none⟩) n cap]] w (CleanEnd w) := by
  have hn2 : n = 1 ∨ n = 2 := by rcases hn with rfl | rfl <;> simp at hx <;> omega
  have HN := Lib.hid hn
  have HX := Lib.hid hx
  have RW : Hid (∀ w', Frame [] w w' → RF (fun _ => True) w' 1 encU (some ⟨b, 0, none⟩) xs) := fun w' f k x hk => ⟨b, 0, rfl, trivial, fun j u hu => by
    match j, hu with
    | 0, hu =>
      have e : u = .int .u32 x := by simpa [encU] using hu.symm
      subst e
      rw [Nat.mul_one, Nat.add_zero, Nat.zero_add]
      exact f.cell (hc k x hk) (by simp)
    | j + 1, hu => simp [encU] at hu⟩
  clear hc hn hx
  have F0 : Hid (Frame [] w ((w.alloc (.cells #[.bool false, .slice (some ⟨b, 0, none⟩) n cap] 34)).alloc (.cells #[.bool false, .slice none 0 0] 34))) := by show Frame [] w _; (repeat first | assumption | exact Frame.refl _ _ | refine Frame.trans1 ?_ (Frame.alloc _ _ _) | refine Frame.trans1 ?_ (Frame.drew _ _) | refine Frame.trans1 ?_ (Frame.drewN _ _ _))
  have B0 := (Blk.new w 34 #[.bool false, .slice (some ⟨b, 0, none⟩) n cap]).alloc (.cells #[.bool false, .slice none 0 0] 34)
  have B1 := Blk.new (w.alloc (.cells #[.bool false, .slice (some ⟨b, 0, none⟩) n cap] 34)) 34 #[.bool false, .slice none 0 0]
  simp only [World.size_alloc] at B1
  have HB1 := Lib.hid B1
  go_enter Tryz.func82, Tryz.ntmps82
  go_upto_region 1 with fail
  generalize (w.alloc (.cells #[.bool false, .slice (some ⟨b, 0, none⟩) n cap] 34)).alloc (.cells #[.bool false, .slice none 0 0] 34) = w1 at *
  have x0 := B0.at 0 rfl
  have xa : ∀ o, (w1.alloc o).cell? ⟨w.heap.size, 1, none⟩ = some (.slice (some ⟨b, 0, none⟩) n cap) := fun o => (B0.alloc o).at 1 rfl
  clear B0 B1
  have sl0 : Sl (w1.alloc (.cells #[] 107)) 107 1 encU (.slice (some ⟨w1.heap.size, 0, none⟩) 0 0) [] [w1.heap.size] := Sl.of_blk (xs := ([] : List Int)) (cap := 0) (Blk.new w1 107 #[]) (Nat.le_refl _) (by unfold maxLen; omega) rfl rfl
  have SL0 := Lib.hid sl0
  clear sl0
  go_wp2_with (at_builtin; refine wpList_append_rf (by rfl) (.tmp 7) (.tmp 9) 32 (by rfl) 107 1 4 _ encU Tryz.underlying32 infoU32 rfl (by omega) (.slice (some ⟨w1.heap.size, 0, none⟩) 0 0) [] 0 rfl [w1.heap.size] (by rfl) SL0.out (fun _ => True) _ n _ xs (by rfl) (RW.out _ (F0.out.trans1 (by (repeat first | assumption | exact Frame.refl _ _ | refine Frame.trans1 ?_ (Frame.alloc _ _ _) | refine Frame.trans1 ?_ (Frame.drew _ _) | refine Frame.trans1 ?_ (Frame.drewN _ _ _))))) HX.out encU_len encU_one n (by omega) (by omega) (by omega) ?_; intro a5 cap5 w5 G5 sl5 f5 hG5; have hF5 : Frame [] w1 w5 := (Frame.alloc [] w1 (.cells #[] 107)).trans f5 (fun x hx => .inr (by simp at hx; omega)); have E5 := Lib.hid (And.intro sl5 hF5); have hcp := slCap sl5; clear sl5 f5 hG5)
  have hcap5 : cap5 ≤ 9223372036854775807 := by have := hcp.2; unfold maxLen at this; omega
  have hcap1 := hcp.1
  clear hcp
  obtain ⟨b5, rfl, hcells⟩ : ∃ b5, a5 = some ⟨b5, 0, none⟩ ∧ Hid (∀ k x, xs[k]? = some x → w5.cell? ⟨b5, k, none⟩ = some (.int .u32 x)) := by
    have h0 : xs[0]? = some 1 := by rcases HN.out with h | h <;> rw [h] <;> rfl
    obtain ⟨b5, cp, hv, -, -, -⟩ := E5.out.1.cell encU_len (k := 0) (x := 1) (by simpa using h0)
    simp only [Value.slice.injEq] at hv
    refine ⟨b5, hv.1, fun k x hk => ?_⟩
    obtain ⟨b6, cp6, hv6, -, -, hc6⟩ := E5.out.1.cell encU_len (k := k) (x := x) (by simpa using hk)
    simp only [Value.slice.injEq] at hv6
    have : b6 = b5 := by have := hv.1.symm.trans hv6.1; simp at this; exact this.symm
    subst this
    have := hc6 0 _ rfl
    simpa using this
  have hF5 := Lib.hid E5.out.2
  have B5 := Lib.hid (HB1.out.frame hF5.out (by simp))
  clear E5 HB1
  go_loopw [3] (fun v wr => ∃ k : Nat, (k = 1 ∨ k = n) ∧ v = .slice (some ⟨b5, 0, none⟩) k cap5 ∧ wr = w5) (fun v _ => match v with | .slice _ k _ => k | _ => 0)
  case atStart => exact ⟨n, .inr rfl, rfl, rfl⟩
  case round =>
    obtain ⟨k, hk, rfl, rfl⟩ := hrel
    have c0 := hcells.out 0 1 (by rcases HN.out with h | h <;> rw [h] <;> rfl)
    by_cases hk1 : k = 1
    · subst hk1
      clear hk
      have y0 := B5.out.at 0 rfl
      have y1 := B5.out.at 1 rfl
      have z0 := B5.out.frozen
      have B9 := Lib.hid ((B5.out.set 0 (.bool false)).set 1 (.slice (some ⟨b5, 0, none⟩) 1 cap5))
      have F9 : Hid (Frame [w.heap.size + 1] wr ((wr.setCell ⟨w.heap.size + 1, 0, none⟩ (.bool false)).setCell ⟨w.heap.size + 1, 1, none⟩ (.slice (some ⟨b5, 0, none⟩) 1 cap5))) := (Frame.setCell _ _ _ (by simp)).trans1 (Frame.setCell _ _ _ (by simp))
      have hne : b5 ≠ w.heap.size + 1 := by
        rintro rfl
        have := B5.out.cell 0
        rw [c0] at this
        simp at this
      go_wp2_with fail
      refine bodyPost_ret (results_cell_row rfl _ _ (w.heap.size + 1) 34 #[.bool false, .slice (some ⟨b5, 0, none⟩) 1 cap5] (0, 0) _ rfl B9.out Tryz.underlying34 rfl (by kernel_rfl)) rfl ?_
      exact ⟨_, rfl, ⟨b5, cap5, rfl, by omega, hcap5, F9.out.cell c0 (by simpa using hne)⟩, (F0.out.trans1 hF5.out).trans F9.out (fun x hx => by simp at hx; exact .inr (by omega))⟩
    · obtain rfl : k = 2 := by omega
      obtain rfl : n = 2 := by omega
      have c1 := hcells.out 1 0 (by
        rcases HN.out with h | h
        · have := HX.out; rw [h] at this; simp at this
        · rw [h]; rfl)
      clear hk hk1
      go_wp2_with fail
      go_roundw
      case rel => first | exact ⟨1, .inl rfl, rfl, rfl⟩ | exact ⟨1, .inl rfl, rfl⟩ | exact ⟨1, by simp⟩
      case measure => simp
theorem ofNat1_one (w : World) : Calls Tryz.prog 36 #[.int .u64 1] w (CleanEnd w) := by
  go_enter Tryz.func36, Tryz.ntmps36
  have B0 := Lib.hid ((Blk.new w 34 #[.bool false, .slice none 0 0]).alloc (.cells #[.int .u32 1, .int .u32 0] 107))
  have B1 := Blk.new (w.alloc (.cells #[.bool false, .slice none 0 0] 34)) 107 #[.int .u32 1, .int .u32 0]
  have F1 : Hid (Frame [] w ((w.alloc (.cells #[.bool false, .slice none 0 0] 34)).alloc (.cells #[.int .u32 1, .int .u32 0] 107))) := by show Frame [] w _; (repeat first | assumption | exact Frame.refl _ _ | refine Frame.trans1 ?_ (Frame.alloc _ _ _) | refine Frame.trans1 ?_ (Frame.drew _ _) | refine Frame.trans1 ?_ (Frame.drewN _ _ _))
  simp only [World.size_alloc] at B1
  go_wp2_with fail
  generalize (w.alloc (.cells #[.bool false, .slice none 0 0] 34)).alloc (.cells #[.int .u32 1, .int .u32 0] 107) = w1 at *
  refine (clean_one (w.heap.size + 1) 2 2 [1, 0] w1 (.inr rfl) rfl (fun k x hk => ?_)).mono ?_
  · match k, hk with
    | 0, hk => simp at hk; subst hk; exact B1.at 0 rfl
    | 1, hk => simp at hk; subst hk; exact B1.at 1 rfl
    | k + 2, hk => simp at hk
  rintro e w2 ⟨v, rfl, hv, f2⟩
  obtain ⟨b, cap, rfl, h1, h2, h3⟩ := hv
  have C0 := Lib.hid (B0.out.frame f2 (by simp))
  have y0 := C0.out.at 0 rfl
  have y1 := C0.out.at 1 rfl
  have z0 := C0.out.frozen
  have hne : b ≠ w.heap.size := by
    rintro rfl
    rw [h3] at y0
    simp at y0
  have B5 := Lib.hid ((C0.out.set 0 (.bool false)).set 1 (.slice (some ⟨b, 0, none⟩) 1 cap))
  have F5 : Hid (Frame [w.heap.size] w2 ((w2.setCell ⟨w.heap.size, 0, none⟩ (.bool false)).setCell ⟨w.heap.size, 1, none⟩ (.slice (some ⟨b, 0, none⟩) 1 cap))) := (Frame.setCell _ _ _ (by simp)).trans1 (Frame.setCell _ _ _ (by simp))
  have E := Lib.hid (And.intro h1 (And.intro h2 (And.intro h3 (And.intro f2 hne))))
  clear B1 h3 f2 hne
  go_wp2_with fail
  refine bodyPost_ret (results_cell_row rfl _ _ w.heap.size 34 #[.bool false, .slice (some ⟨b, 0, none⟩) 1 cap] (0, 0) _ rfl B5.out Tryz.underlying34 rfl (by kernel_rfl)) rfl ?_
  exact ⟨_, rfl, ⟨b, cap, rfl, E.out.1, E.out.2.1, F5.out.cell E.out.2.2.1 (by simpa using E.out.2.2.2.2)⟩, (F1.out.trans1 E.out.2.2.2.1).trans F5.out (fun x hx => by simp at hx; exact .inr (by omega))⟩
theorem may1_one (b cap : Nat) (w : World) (hc : w.cell? ⟨b, 0, none⟩ = some (.int .u32 1)) : Calls Tryz.prog 48 #[.agg #[.bool false, .slice (some ⟨b, 0, none⟩) 1 cap]] w fun e w' => e = .returned (.bool true) ∧ Frame [] w w' := by
  have c0 : ∀ o, (w.alloc o).cell? ⟨b, 0, none⟩ = some (.int .u32 1) := fun o => (Frame.alloc [] w o).cell hc (by simp)
  clear hc
  go_enter Tryz.func48, Tryz.ntmps48
  go_wp2_with fail
  go_ret
  exact ⟨rfl, Frame.alloc _ _ _⟩
theorem mayValue1_one (b cap : Nat) (w : World) (hc : w.cell? ⟨b, 0, none⟩ = some (.int .u32 1)) : Calls Tryz.prog 12 #[.agg #[.int .i64 1, .bool false, .slice (some ⟨b, 0, none⟩) 1 cap, .int .i64 0, .float .f64 0]] w fun e w' => e = .returned (.int .i64 0) ∧ Frame [] w w' := by
  have M := Lib.hid (fun w' (f : Frame [] w w') => may1_one b cap w' (f.cell hc (by simp)))
  clear hc
  have F0 := Lib.hid (Frame.alloc [] w (.cells #[.int .i64 1, .bool false, .slice (some ⟨b, 0, none⟩) 1 cap, .int .i64 0, .float .f64 0] 37))
  go_enter Tryz.func12, Tryz.ntmps12
  go_wp2_with fail
  refine (M.out _ F0.out).mono ?_
  rintro e w1 ⟨rfl, f1⟩
  go_wp2_with fail
  go_ret
  exact ⟨rfl, F0.out.trans1 f1⟩

set_option maxHeartbeats 4000000 in
set_option maxRecDepth 100000 in
theorem compare1_one (b1 c1 b2 c2 : Nat) (w : World) (h1 : w.cell? ⟨b1, 0, none⟩ = some (.int .u32 1)) (h2 : w.cell? ⟨b2, 0, none⟩ = some (.int .u32 1)) :
    Calls Tryz.prog 58 #[.agg #[.bool false, .slice (some ⟨b1, 0, none⟩) 1 c1], .agg #[.bool false, .slice (some ⟨b2, 0, none⟩) 1 c2]] w fun e w' => e = .returned (.int .i64 0) ∧ Frame [] w w' := by
  have K : ∀ (b c : Nat), w.cell? ⟨b, 0, none⟩ = some (.int .u32 1) → Hid (∀ w', Frame [] w w' → Calls Tryz.prog 82 #[.agg #[.bool false, .slice (some ⟨b, 0, none⟩) 1 c]] w' (CleanEnd w')) := fun b c h w' f =>
    clean_one b 1 c [1] w' (.inl rfl) rfl (fun k x hk => by
      match k, hk with
      | 0, hk => simp at hk; subst hk; exact f.cell h (by simp)
      | k + 1, hk => simp at hk)
  have K1 := K b1 c1 h1
  have K2 := K b2 c2 h2
  clear K h1 h2
  have B0 := (Blk.new w 34 #[.bool false, .slice (some ⟨b1, 0, none⟩) 1 c1]).alloc (.cells #[.bool false, .slice (some ⟨b2, 0, none⟩) 1 c2] 34)
  have B1 := Blk.new (w.alloc (.cells #[.bool false, .slice (some ⟨b1, 0, none⟩) 1 c1] 34)) 34 #[.bool false, .slice (some ⟨b2, 0, none⟩) 1 c2]
  have F0 : Hid (Frame [] w ((w.alloc (.cells #[.bool false, .slice (some ⟨b1, 0, none⟩) 1 c1] 34)).alloc (.cells #[.bool false, .slice (some ⟨b2, 0, none⟩) 1 c2] 34))) := by show Frame [] w _; (repeat first | assumption | exact Frame.refl _ _ | refine Frame.trans1 ?_ (Frame.alloc _ _ _) | refine Frame.trans1 ?_ (Frame.drew _ _) | refine Frame.trans1 ?_ (Frame.drewN _ _ _))
  simp only [World.size_alloc] at B1
  go_enter Tryz.func58, Tryz.ntmps58
  go_upto_region 1 with fail
  generalize (w.alloc (.cells #[.bool false, .slice (some ⟨b1, 0, none⟩) 1 c1] 34)).alloc (.cells #[.bool false, .slice (some ⟨b2, 0, none⟩) 1 c2] 34) = w1 at *
  have x0 := B0.at 0 rfl
  have x1 := B0.at 1 rfl
  have HB1 := Lib.hid B1
  clear B0 B1
  go_wp2_with fail
  refine (K1.out _ F0.out).mono ?_
  rintro e w2 ⟨v, rfl, ⟨b3, c3, rfl, p1, p2, h3⟩, f2⟩
  have B3 := Lib.hid (Blk.new w2 34 #[.bool false, .slice (some ⟨b3, 0, none⟩) 1 c3])
  have f23 : Frame [] w1 (w2.alloc (.cells #[.bool false, .slice (some ⟨b3, 0, none⟩) 1 c3] 34)) := f2.trans1 (Frame.alloc _ _ _)
  have H3 := Lib.hid ((Frame.alloc [] w2 (.cells #[.bool false, .slice (some ⟨b3, 0, none⟩) 1 c3] 34)).cell h3 (by simp))
  clear x0 x1 h3 f2
  go_upto_region 2 with fail
  generalize w2.alloc (.cells #[.bool false, .slice (some ⟨b3, 0, none⟩) 1 c3] 34) = w3 at *
  generalize w2.heap.size = q3 at *
  have x0 := (HB1.out.frame f23 (by simp)).at 0 rfl
  have x1 := (HB1.out.frame f23 (by simp)).at 1 rfl
  have F3 := Lib.hid (F0.out.trans1 f23)
  clear f23
  go_wp2_with fail
  refine (K2.out _ F3.out).mono ?_
  rintro e w4 ⟨v, rfl, ⟨b4, c4, rfl, p3, p4, h4⟩, f4⟩
  have B4 := Blk.new w4 34 #[.bool false, .slice (some ⟨b4, 0, none⟩) 1 c4]
  have f45 : Frame [] w3 (w4.alloc (.cells #[.bool false, .slice (some ⟨b4, 0, none⟩) 1 c4] 34)) := f4.trans1 (Frame.alloc _ _ _)
  have h4' := (Frame.alloc [] w4 (.cells #[.bool false, .slice (some ⟨b4, 0, none⟩) 1 c4] 34)).cell h4 (by simp)
  clear x0 x1 h4 f4 K1 K2
  go_upto_region 3 with fail
  generalize w4.alloc (.cells #[.bool false, .slice (some ⟨b4, 0, none⟩) 1 c4] 34) = w5 at *
  generalize w4.heap.size = q4 at *
  have y0 := (B3.out.frame f45 (by simp)).at 0 rfl
  have y1 := (B3.out.frame f45 (by simp)).at 1 rfl
  have z0 := B4.at 0 rfl
  have z1 := B4.at 1 rfl
  have h3 := f45.cell H3.out (by simp)
  have F5 := Lib.hid (F3.out.trans1 f45)
  have R5 := Lib.hid (And.intro y0 (And.intro y1 (And.intro z0 (And.intro z1 (And.intro h3 h4')))))
  clear B4 f45
  go_wp2_with fail
  clear y0 y1 z0 z1 h3 h4'
  go_loopw [7] (fun i wr => ∃ k : Int, (k = 0 ∨ k = -1) ∧ i = .int .i64 k ∧ Hid (Frame [] w5 wr)) (fun i _ => (intOf i + 1).toNat)
  case atStart => exact ⟨0, .inl rfl, rfl, Lib.hid (Frame.refl _ _)⟩
  case round =>
    rename World => wr
    obtain ⟨k, hk, rfl, hR⟩ := hrel
    have y0 := hR.out.cell R5.out.1 (by simp)
    have y1 := hR.out.cell R5.out.2.1 (by simp)
    have z0 := hR.out.cell R5.out.2.2.1 (by simp)
    have z1 := hR.out.cell R5.out.2.2.2.1 (by simp)
    have h3 := hR.out.cell R5.out.2.2.2.2.1 (by simp)
    have h4 := hR.out.cell R5.out.2.2.2.2.2 (by simp)
    rcases hk with rfl | rfl
    · go_wp2_with fail
      go_region
      all_goals
        go_wp2_with fail
        go_roundw
        case rel => exact ⟨-1, .inr rfl, by first | rfl | go_num, Lib.hid (hR.out.trans1 (by (repeat first | assumption | exact Frame.refl _ _ | refine Frame.trans1 ?_ (Frame.alloc _ _ _) | refine Frame.trans1 ?_ (Frame.drew _ _) | refine Frame.trans1 ?_ (Frame.drewN _ _ _))))⟩
        case measure => simp [intOf]
    · go_wp2_with fail
      go_ret
      exact ⟨rfl, F5.out.trans1 hR.out⟩
set_option maxRecDepth 100000 in
theorem alike1_one (b1 c1 b2 c2 : Nat) (w : World) (h1 : w.cell? ⟨b1, 0, none⟩ = some (.int .u32 1)) (h2 : w.cell? ⟨b2, 0, none⟩ = some (.int .u32 1)) :
    Calls Tryz.prog 20 #[.agg #[.int .i64 1, .bool false, .slice (some ⟨b1, 0, none⟩) 1 c1, .int .i64 0, .float .f64 0], .agg #[.int .i64 1, .bool false, .slice (some ⟨b2, 0, none⟩) 1 c2, .int .i64 0, .float .f64 0]] w fun e w' => e = .returned (.bool true) ∧ Frame [] w w' := by
  have M1 := Lib.hid (fun w' (f : Frame [] w w') => mayValue1_one b1 c1 w' (f.cell h1 (by simp)))
  have M2 := Lib.hid (fun w' (f : Frame [] w w') => mayValue1_one b2 c2 w' (f.cell h2 (by simp)))
  have CM := Lib.hid (fun w' (f : Frame [] w w') => compare1_one b1 c1 b2 c2 w' (f.cell h1 (by simp)) (f.cell h2 (by simp)))
  clear h1 h2
  have B0 := (Blk.new w 37 #[.int .i64 1, .bool false, .slice (some ⟨b1, 0, none⟩) 1 c1, .int .i64 0, .float .f64 0]).alloc (.cells #[.int .i64 1, .bool false, .slice (some ⟨b2, 0, none⟩) 1 c2, .int .i64 0, .float .f64 0] 37)
  have B1 := Blk.new (w.alloc (.cells #[.int .i64 1, .bool false, .slice (some ⟨b1, 0, none⟩) 1 c1, .int .i64 0, .float .f64 0] 37)) 37 #[.int .i64 1, .bool false, .slice (some ⟨b2, 0, none⟩) 1 c2, .int .i64 0, .float .f64 0]
  have F0 : Hid (Frame [] w ((w.alloc (.cells #[.int .i64 1, .bool false, .slice (some ⟨b1, 0, none⟩) 1 c1, .int .i64 0, .float .f64 0] 37)).alloc (.cells #[.int .i64 1, .bool false, .slice (some ⟨b2, 0, none⟩) 1 c2, .int .i64 0, .float .f64 0] 37))) := by show Frame [] w _; (repeat first | assumption | exact Frame.refl _ _ | refine Frame.trans1 ?_ (Frame.alloc _ _ _) | refine Frame.trans1 ?_ (Frame.drew _ _) | refine Frame.trans1 ?_ (Frame.drewN _ _ _))
  simp only [World.size_alloc] at B1
  go_enter Tryz.func20, Tryz.ntmps20
  go_wp2_with fail
  generalize (w.alloc (.cells #[.int .i64 1, .bool false, .slice (some ⟨b1, 0, none⟩) 1 c1, .int .i64 0, .float .f64 0] 37)).alloc (.cells #[.int .i64 1, .bool false, .slice (some ⟨b2, 0, none⟩) 1 c2, .int .i64 0, .float .f64 0] 37) = w1 at *
  refine (M1.out _ F0.out).mono ?_
  rintro e w2 ⟨rfl, f2⟩
  have C0 := B0.frame f2 (by simp)
  have C1 := B1.frame f2 (by simp)
  have x0 := C1.at 0 rfl
  have x1 := C1.at 1 rfl
  have x2 := C1.at 2 rfl
  have x3 := C1.at 3 rfl
  have x4 := C1.at 4 rfl
  have HC0 := Lib.hid C0
  have HC1 := Lib.hid C1
  have F2 := Lib.hid (F0.out.trans1 f2)
  clear B0 B1 C0 C1 f2 M1
  go_wp2_with fail
  refine (M2.out _ F2.out).mono ?_
  rintro e w3 ⟨rfl, f3⟩
  have D0 := HC0.out.frame f3 (by simp)
  have D1 := HC1.out.frame f3 (by simp)
  have x0 := D0.at 0 rfl
  have x1 := D0.at 1 rfl
  have x2 := D0.at 2 rfl
  have y0 := D1.at 0 rfl
  have y1 := D1.at 1 rfl
  have y2 := D1.at 2 rfl
  have F3 := Lib.hid (F2.out.trans1 f3)
  clear D0 D1 f3 M2
  go_wp2_with fail
  refine (CM.out _ F3.out).mono ?_
  rintro e w4 ⟨rfl, f4⟩
  go_wp2_with fail
  go_ret
  exact ⟨rfl, F3.out.trans1 f4⟩
end Go.Proofs.YtfplakdingfccaaGreat

