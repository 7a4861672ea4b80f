/- The law EvalOnes, walked. (printed by gen_ones.py) -/
import Derived.Test.YtbnhhmejlglbcaaGreatMo48
import Derived.Test.YtbnhhmejlglbcaaGreatMo47
import Derived.Test.YtbnhhmejlglbcaaGreatMo44
import Derived.Test.YtbnhhmejlglbcaaGreatMo31
import Derived.Test.YtbnhhmejlglbcaaGreatMo32
namespace Go.Proofs.YtbnhhmejlglbcaaGreat
open Go.RowKit
set_option linter.unusedSimpArgs false
set_option linter.unusedVariables false

set_option maxRecDepth 100000 in
theorem evalOnes_out (a : Option Addr) (n cap : Nat) (r : Int) (w : World) (h : 60 < n) (hn : n ≤ 9223372036854775807) :
    Calls Tryz.prog 5 #[.slice a n cap, .int .i64 r] w fun e w' => e = .returned (.bool true) ∧ Frame [] w w' := by
  have d1 : decide ((60 : Int) < n) = true := decide_eq_true (by omega)
  clear h
  go_enter Tryz.func5, Tryz.ntmps5
  go_wp2_with fail
  refine (awake14 _).mono ?_
  rintro e w1 ⟨rfl, f1⟩
  go_wp2_with fail
  go_ret
  exact ⟨rfl, f1⟩
theorem round_natO (r : Int) (n : Nat) (hn : 1 ≤ n) : ∃ root : Nat, r % (n : Int) = root ∧ root < n := by
  have h1 := Int.emod_nonneg r (show (n : Int) ≠ 0 by omega)
  have h2 := Int.emod_lt_of_pos r (show (0 : Int) < n by omega)
  exact ⟨(r % n).toNat, by omega, by omega⟩
/-- All six tokens. -/
theorem truth_six {l : List Gt} (hI : Inv l) (ht : Tk6 l) (root : Nat) : truth l root [1, 2, 3, 4, 5, 6] = worth rgB (fun t => decide (¬ t ∈ ([] : List Int))) l root := by
  unfold truth
  refine worth_congr hI (root := root) (fun k g hk hm hg h3 => ?_) root (Nat.le_refl _) (reachM_root l root)
  have := ht g (List.mem_of_getElem? hg) h3
  have e : g.a = 1 ∨ g.a = 2 ∨ g.a = 3 ∨ g.a = 4 ∨ g.a = 5 ∨ g.a = 6 := by omega
  rcases e with e | e | e | e | e | e <;> rw [e] <;> decide
theorem rdI_six {w : World} {b : Nat} (h : Blk w b 3 #[.int .i64 1, .int .i64 2, .int .i64 3, .int .i64 4, .int .i64 5, .int .i64 6]) : RdI w (some ⟨b, 0, none⟩) [1, 2, 3, 4, 5, 6] := .inr ⟨b, 0, rfl, h.lt, fun k hk => by
  match k, hk with
  | 0, _ => exact h.at 0 rfl
  | 1, _ => exact h.at 1 rfl
  | 2, _ => exact h.at 2 rfl
  | 3, _ => exact h.at 3 rfl
  | 4, _ => exact h.at 4 rfl
  | 5, _ => exact h.at 5 rfl
  | k + 6, hk => exact absurd hk (by simp)⟩

set_option maxHeartbeats 4000000 in
set_option maxRecDepth 100000 in
theorem evalOnes_in (a : Option Addr) (cap : Nat) (xs : List St3) (r : Int) (w : World) (hx : RdS w 3 St3.enc St3.ok a xs) (hl : xs.length ≤ 60) (hr : okI w r) :
    Calls Tryz.prog 5 #[.slice a xs.length cap, .int .i64 r] w fun e w' => e = .returned (.bool true) ∧ Frame [] w w' := by
  have hst := fun (w : World) (a : Addr) (q : Nat) (m : Mode) => run_store Tryz.prog w a (.float .f64 q) m rfl
  have d1 : decide ((60 : Int) < xs.length) = false := decide_eq_false (by omega)
  have MA := Lib.hid (made14_any a cap xs w hx (by omega))
  have hok := gatesM_ok xs
  clear hx
  generalize gatesM xs = l at *
  have hl1 := hok.len
  have hl2 := hok.two
  have HOK := Lib.hid hok
  clear hok
  obtain ⟨root, hroot, hrl⟩ := round_natO r l.length (by omega)
  have RA := Lib.hid (fun w => round_any r l.length w (by omega) (by omega) hr.1 hr.2)
  rw [hroot] at RA
  clear hroot hr
  obtain ⟨bg, hbg⟩ : ∃ bg, bigV l = bg := ⟨_, rfl⟩
  have HBG := Lib.hid hbg
  clear hbg
  go_enter Tryz.func5, Tryz.ntmps5
  go_wp2_with fail
  refine MA.out.mono ?_
  rintro e w2 ⟨pb, rb, rfl, F, F2, s2, r2, f2, n2, -⟩
  have BG := Lib.hid (big_any rb F2 l 1000 w2 r2 HOK.out.inv HOK.out.kn.knd (by omega))
  rw [HBG.out] at BG
  have A := Lib.hid (And.intro s2 (And.intro r2 f2))
  clear s2 r2 f2 n2 MA
  cases bg with
  | true =>
    go_wp2_with fail
    refine BG.out.mono ?_
    rintro e w3 ⟨rfl, f3⟩
    have F3 := Lib.hid (A.out.2.2.trans1 f3)
    clear f3
    go_wp2_with fail
    refine (awake14 _).mono ?_
    rintro e w4 ⟨rfl, f4⟩
    go_wp2_with fail
    go_ret
    exact ⟨rfl, F3.out.trans1 f4⟩
  | false =>
    go_wp2_with fail
    refine BG.out.mono ?_
    rintro e w3 ⟨rfl, f3⟩
    obtain ⟨ra, rc, rG, rb1, -, -, -⟩ := A.out.2.1.frame0 f3
    have z0 := rb1.at 0 rfl
    have F3 := Lib.hid (A.out.2.2.trans1 f3)
    have S3 := Lib.hid (A.out.1.frame0 f3)
    clear f3 rb1 BG
    go_wp2_with fail
    refine (RA.out _).mono ?_
    rintro e w3 ⟨rfl, rfl⟩
    clear z0 RA
    have TR := Lib.hid (truth_any pb F l (1000 - l.length) HOK.out.inv root hrl (by omega) (some ⟨w3.heap.size, 0, none⟩) 6 [1, 2, 3, 4, 5, 6] (w3.alloc (.cells #[.int .i64 1, .int .i64 2, .int .i64 3, .int .i64 4, .int .i64 5, .int .i64 6] 3)) (S3.out.frame0 (Frame.alloc _ _ _)) (rdI_six (Blk.new _ _ _)) (by simp))
    rw [truth_six HOK.out.inv HOK.out.tk] at TR
    have AT1 := fun w' (f : Frame [] w3 w') => at_ones semOk_1 (fun _ => none) pb F l (1000 - l.length) HOK.out.inv root hrl (by omega) w' (S3.out.frame0 f) (fit_C HOK.out.inv (sz_C HOK.out.inv (by omega) HBG.out (bd_onesC []) (by decide)))
    have hz1 := ones_count HOK.out.inv [] root
    have sz1 := sz_C HOK.out.inv (by omega) HBG.out (bd_onesC []) (by decide) root hrl
    generalize worth (rgN1) (onesW (rgN1) []) l root = x1 at *
    have AT2 := fun w' (f : Frame [] w3 w') => at_ones semOk_2 (fun _ => 0) pb F l (1000 - l.length) HOK.out.inv root hrl (by omega) w' (S3.out.frame0 f) (fit_any _)
    have hz2 := ones_two (two_L (.inl rfl)) HOK.out.inv [] root
    generalize worth (rgL 2) (onesW (rgL 2) []) l root = x2 at *
    have AT3 := fun w' (f : Frame [] w3 w') => at_ones semOk_3 (fun _ => none) pb F l (1000 - l.length) HOK.out.inv root hrl (by omega) w' (S3.out.frame0 f) (fit_T HOK.out.inv (sz_T HOK.out.inv (by omega) (bd_onesT []) (by decide)))
    have hz3 := ones_two two_T HOK.out.inv [] root
    generalize worth (rgT) (onesW (rgT) []) l root = x3 at *
    have AT4 := fun w' (f : Frame [] w3 w') => at_ones semOk_4 (fun _ => 0) pb F l (1000 - l.length) HOK.out.inv root hrl (by omega) w' (S3.out.frame0 f) (fit_any _)
    have hz4 := ones_two (two_L (.inr rfl)) HOK.out.inv [] root
    generalize worth (rgL 4) (onesW (rgL 4) []) l root = x4 at *
    have AT5 := fun w' (f : Frame [] w3 w') => at_ones semOk_5 (fun _ => 0) pb F l (1000 - l.length) HOK.out.inv root hrl (by omega) w' (S3.out.frame0 f) (fit_any _)
    have hz5 := ones_two two_5 HOK.out.inv [] root
    generalize worth (rgF5) (onesW (rgF5) []) l root = x5 at *
    have AT6 := fun w' (f : Frame [] w3 w') => at_ones semOk_6 (fun _ => 0) pb F l (1000 - l.length) HOK.out.inv root hrl (by omega) w' (S3.out.frame0 f) (fit_any _)
    have hz6 := ones_two two_6 HOK.out.inv [] root
    generalize worth (rgF6) (onesW (rgF6) []) l root = x6 at *
    generalize worth rgB (fun t => decide (¬ t ∈ ([] : List Int))) l root = yes at *
    go_wp2_with fail
    refine TR.out.mono ?_
    rintro e w5 ⟨rfl, f5⟩
    have F35 := Lib.hid ((Frame.alloc [] w3 (.cells #[.int .i64 1, .int .i64 2, .int .i64 3, .int .i64 4, .int .i64 5, .int .i64 6] 3)).trans1 f5)
    clear f5 TR
    have AT1 := Lib.hid AT1
    have HZ1 := Lib.hid hz1
    clear hz1
    have AT2 := Lib.hid AT2
    have HZ2 := Lib.hid hz2
    clear hz2
    have AT3 := Lib.hid AT3
    have HZ3 := Lib.hid hz3
    clear hz3
    have AT4 := Lib.hid AT4
    have HZ4 := Lib.hid hz4
    clear hz4
    have AT5 := Lib.hid AT5
    have HZ5 := Lib.hid hz5
    clear hz5
    have AT6 := Lib.hid AT6
    have HZ6 := Lib.hid hz6
    clear hz6
    have SZ1 := Lib.hid sz1
    clear sz1
    go_wp2_with fail
    go_loopw [9, 10, 11, 12, 13] (fun s _ _ _ _ wr => ∃ k : Nat, 1 ≤ k ∧ k ≤ 7 ∧ s = .int .i64 k ∧ Hid (Frame [] w3 wr)) (fun s _ _ _ _ _ => (8 - intOf s).toNat)
    case atStart => exact ⟨1, by omega, by omega, rfl, F35⟩
    case round =>
      rename World => wr
      obtain ⟨k, hk1, hk7, rfl, hR⟩ := hrel
      have hk : k = 1 ∨ k = 2 ∨ k = 3 ∨ k = 4 ∨ k = 5 ∨ k = 6 ∨ k = 7 := by omega
      clear hk1 hk7 F35
      rcases hk with rfl | rfl | rfl | rfl | rfl | rfl | rfl
      · go_wp2_with fail
        refine (AT1.out _ hR.out).mono ?_
        rintro e w6 ⟨v, rfl, iv, f6⟩
        obtain ⟨i, b1, l1, c1, rfl, nv⟩ := iv
        go_upto_region 12 with fail
        have B1 := Lib.hid (Blk.new w6 37 #[.int .i64 1, .bool i, .slice b1 l1 c1, .int .i64 0, .float .f64 0])
        have f7 := f6.trans1 (Frame.alloc [] w6 (.cells #[.int .i64 1, .bool i, .slice b1 l1 c1, .int .i64 0, .float .f64 0] 37))
        have NV := Lib.hid (nv.frame (Frame.alloc [] w6 (.cells #[.int .i64 1, .bool i, .slice b1 l1 c1, .int .i64 0, .float .f64 0] 37)))
        clear nv
        generalize w6.alloc (.cells #[.int .i64 1, .bool i, .slice b1 l1 c1, .int .i64 0, .float .f64 0] 37) = w7 at *
        generalize w6.heap.size = q1 at *
        have F7 := Lib.hid (hR.out.trans1 f7)
        clear f6 f7
        go_wp2_with fail
        refine (one1_1 _).mono ?_
        rintro e w8 ⟨v, rfl, iv, f8⟩
        obtain ⟨j, b2, l2, c2, rfl, nv⟩ := iv
        go_upto_region 13 with fail
        have B2 := Lib.hid (Blk.new w8 37 #[.int .i64 1, .bool j, .slice b2 l2 c2, .int .i64 0, .float .f64 0])
        have f9 := f8.trans1 (Frame.alloc [] w8 (.cells #[.int .i64 1, .bool j, .slice b2 l2 c2, .int .i64 0, .float .f64 0] 37))
        have N2 := Lib.hid (nv.frame (Frame.alloc [] w8 (.cells #[.int .i64 1, .bool j, .slice b2 l2 c2, .int .i64 0, .float .f64 0] 37)))
        have NV := Lib.hid (NV.out.frame f9)
        clear nv
        have B1 := Lib.hid (B1.out.frame f9 (by simp))
        generalize w8.alloc (.cells #[.int .i64 1, .bool j, .slice b2 l2 c2, .int .i64 0, .float .f64 0] 37) = w9 at *
        generalize w8.heap.size = q2 at *
        have F9 := Lib.hid (F7.out.trans1 f9)
        clear f8 f9
        have x_0 := B1.out.at 0 rfl
        have x_1 := B1.out.at 1 rfl
        have x_2 := B1.out.at 2 rfl
        have x_3 := B1.out.at 3 rfl
        have x_4 := B1.out.at 4 rfl
        have IZ := isz1_1 x1 i b1 l1 c1 w9 NV.out SZ1.out
        rw [show decide (x1 = (rgN1).z) = !yes from HZ1.out] at IZ
        have IZ := Lib.hid IZ
        cases yes with
        | false =>
          go_wp2_with fail
          refine IZ.out.mono ?_
          rintro e w10 ⟨rfl, f10⟩
          have F10 := Lib.hid (F9.out.trans1 f10)
          clear f10
          go_wp2_with fail
          go_roundw
          case rel => exact ⟨2, by omega, by omega, by first | trivial | rfl | go_num, F10⟩
          case measure => first | (simp [intOf]; done) | (simp [intOf]; omega)
        | true =>
          go_wp2_with fail
          refine IZ.out.mono ?_
          rintro e w10 ⟨rfl, f10⟩
          have F10 := Lib.hid (F9.out.trans1 f10)
          clear f10
          go_wp2_with fail
          go_roundw
          case rel => exact ⟨2, by omega, by omega, by first | trivial | rfl | go_num, F10⟩
          case measure => first | (simp [intOf]; done) | (simp [intOf]; omega)
      · go_wp2_with fail
        refine (AT2.out _ hR.out).mono ?_
        rintro e w6 ⟨v, rfl, iv, f6⟩
        obtain ⟨rfl, hv0, hv1⟩ := iv
        go_upto_region 12 with fail
        have B1 := Lib.hid (Blk.new w6 37 #[.int .i64 2, .bool false, .slice none 0 0, .int .i64 x2, .float .f64 0])
        have f7 := f6.trans1 (Frame.alloc [] w6 (.cells #[.int .i64 2, .bool false, .slice none 0 0, .int .i64 x2, .float .f64 0] 37))
        generalize w6.alloc (.cells #[.int .i64 2, .bool false, .slice none 0 0, .int .i64 x2, .float .f64 0] 37) = w7 at *
        generalize w6.heap.size = q1 at *
        have F7 := Lib.hid (hR.out.trans1 f7)
        clear f6 f7
        go_wp2_with fail
        refine (one1_2 _).mono ?_
        rintro e w8 ⟨v, rfl, iv, f8⟩
        obtain ⟨rfl, ho⟩ := iv
        have HO := Lib.hid ho
        clear ho
        generalize hoo : (rgL 2).o = o at *
        go_upto_region 13 with fail
        have B2 := Lib.hid (Blk.new w8 37 #[.int .i64 2, .bool false, .slice none 0 0, .int .i64 o, .float .f64 0])
        have f9 := f8.trans1 (Frame.alloc [] w8 (.cells #[.int .i64 2, .bool false, .slice none 0 0, .int .i64 o, .float .f64 0] 37))
        have B1 := Lib.hid (B1.out.frame f9 (by simp))
        generalize w8.alloc (.cells #[.int .i64 2, .bool false, .slice none 0 0, .int .i64 o, .float .f64 0] 37) = w9 at *
        generalize w8.heap.size = q2 at *
        have F9 := Lib.hid (F7.out.trans1 f9)
        clear f8 f9
        have x_0 := B1.out.at 0 rfl
        have x_1 := B1.out.at 1 rfl
        have x_2 := B1.out.at 2 rfl
        have x_3 := B1.out.at 3 rfl
        have x_4 := B1.out.at 4 rfl
        have IZ := isz1_2 x2 w9 hv0 hv1
        have hne := ((two_L (.inl rfl))).ne
        rw [hoo] at hne
        have hd : decide (x2 = (rgL 2).z) = !yes := by
          rw [HZ2.out]
          cases yes
          · simp
          · simp; exact fun h => hne h.symm
        rw [hd] at IZ
        have IZ := Lib.hid IZ
        clear hd hne
        cases yes with
        | false =>
          go_wp2_with fail
          refine IZ.out.mono ?_
          rintro e w10 ⟨rfl, f10⟩
          have F10 := Lib.hid (F9.out.trans1 f10)
          clear f10
          go_wp2_with fail
          go_roundw
          case rel => exact ⟨3, by omega, by omega, by first | trivial | rfl | go_num, F10⟩
          case measure => first | (simp [intOf]; done) | (simp [intOf]; omega)
        | true =>
          go_wp2_with fail
          refine IZ.out.mono ?_
          rintro e w10 ⟨rfl, f10⟩
          have x_0 := (B1.out.frame f10 (by simp)).at 0 rfl
          have y_0 := (B2.out.frame f10 (by simp)).at 0 rfl
          have x_1 := (B1.out.frame f10 (by simp)).at 1 rfl
          have y_1 := (B2.out.frame f10 (by simp)).at 1 rfl
          have x_2 := (B1.out.frame f10 (by simp)).at 2 rfl
          have y_2 := (B2.out.frame f10 (by simp)).at 2 rfl
          have x_3 := (B1.out.frame f10 (by simp)).at 3 rfl
          have y_3 := (B2.out.frame f10 (by simp)).at 3 rfl
          have x_4 := (B1.out.frame f10 (by simp)).at 4 rfl
          have y_4 := (B2.out.frame f10 (by simp)).at 4 rfl
          have AL := alike_2 x2 o w10 ⟨hv0, hv1⟩ HO.out
          have he : decide (x2 = o) = true := decide_eq_true (by have := HZ2.out; simpa using this)
          rw [he] at AL
          have AL := Lib.hid AL
          clear he
          have F10 := Lib.hid (F9.out.trans1 f10)
          clear f10
          go_wp2_with fail
          refine AL.out.mono ?_
          rintro e w11 ⟨rfl, f11⟩
          have F10 := Lib.hid (F10.out.trans1 f11)
          clear f11
          go_wp2_with fail
          go_roundw
          case rel => exact ⟨3, by omega, by omega, by first | trivial | rfl | go_num, F10⟩
          case measure => first | (simp [intOf]; done) | (simp [intOf]; omega)
      · go_wp2_with fail
        refine (AT3.out _ hR.out).mono ?_
        rintro e w6 ⟨v, rfl, iv, f6⟩
        obtain ⟨i, b1, l1, c1, rfl, nv⟩ := iv
        go_upto_region 12 with fail
        have B1 := Lib.hid (Blk.new w6 37 #[.int .i64 3, .bool i, .slice b1 l1 c1, .int .i64 0, .float .f64 0])
        have f7 := f6.trans1 (Frame.alloc [] w6 (.cells #[.int .i64 3, .bool i, .slice b1 l1 c1, .int .i64 0, .float .f64 0] 37))
        have NV := Lib.hid (nv.frame (Frame.alloc [] w6 (.cells #[.int .i64 3, .bool i, .slice b1 l1 c1, .int .i64 0, .float .f64 0] 37)))
        clear nv
        generalize w6.alloc (.cells #[.int .i64 3, .bool i, .slice b1 l1 c1, .int .i64 0, .float .f64 0] 37) = w7 at *
        generalize w6.heap.size = q1 at *
        have F7 := Lib.hid (hR.out.trans1 f7)
        clear f6 f7
        go_wp2_with fail
        refine (one1_3 _).mono ?_
        rintro e w8 ⟨v, rfl, iv, f8⟩
        obtain ⟨j, b2, l2, c2, rfl, nv⟩ := iv
        go_upto_region 13 with fail
        have B2 := Lib.hid (Blk.new w8 37 #[.int .i64 3, .bool j, .slice b2 l2 c2, .int .i64 0, .float .f64 0])
        have f9 := f8.trans1 (Frame.alloc [] w8 (.cells #[.int .i64 3, .bool j, .slice b2 l2 c2, .int .i64 0, .float .f64 0] 37))
        have N2 := Lib.hid (nv.frame (Frame.alloc [] w8 (.cells #[.int .i64 3, .bool j, .slice b2 l2 c2, .int .i64 0, .float .f64 0] 37)))
        have NV := Lib.hid (NV.out.frame f9)
        clear nv
        have B1 := Lib.hid (B1.out.frame f9 (by simp))
        generalize w8.alloc (.cells #[.int .i64 3, .bool j, .slice b2 l2 c2, .int .i64 0, .float .f64 0] 37) = w9 at *
        generalize w8.heap.size = q2 at *
        have F9 := Lib.hid (F7.out.trans1 f9)
        clear f8 f9
        have x_0 := B1.out.at 0 rfl
        have x_1 := B1.out.at 1 rfl
        have x_2 := B1.out.at 2 rfl
        have x_3 := B1.out.at 3 rfl
        have x_4 := B1.out.at 4 rfl
        have SZ3 : Sz x3 := by rw [HZ3.out]; split <;> first | exact sz_zero | trivial
        have IZ := isz1_3 x3 i b1 l1 c1 w9 NV.out SZ3
        have hd : decide (x3 = (rgT).z) = !yes := by rw [HZ3.out]; cases yes <;> decide
        rw [hd] at IZ
        have IZ := Lib.hid IZ
        clear hd
        cases yes with
        | false =>
          go_wp2_with fail
          refine IZ.out.mono ?_
          rintro e w10 ⟨rfl, f10⟩
          have F10 := Lib.hid (F9.out.trans1 f10)
          clear f10
          go_wp2_with fail
          go_roundw
          case rel => exact ⟨4, by omega, by omega, by first | trivial | rfl | go_num, F10⟩
          case measure => first | (simp [intOf]; done) | (simp [intOf]; omega)
        | true =>
          go_wp2_with fail
          refine IZ.out.mono ?_
          rintro e w10 ⟨rfl, f10⟩
          have x_0 := (B1.out.frame f10 (by simp)).at 0 rfl
          have y_0 := (B2.out.frame f10 (by simp)).at 0 rfl
          have x_1 := (B1.out.frame f10 (by simp)).at 1 rfl
          have y_1 := (B2.out.frame f10 (by simp)).at 1 rfl
          have x_2 := (B1.out.frame f10 (by simp)).at 2 rfl
          have y_2 := (B2.out.frame f10 (by simp)).at 2 rfl
          have x_3 := (B1.out.frame f10 (by simp)).at 3 rfl
          have y_3 := (B2.out.frame f10 (by simp)).at 3 rfl
          have x_4 := (B1.out.frame f10 (by simp)).at 4 rfl
          have y_4 := (B2.out.frame f10 (by simp)).at 4 rfl
          have AL := alike_3 x3 (rgT).o i j b1 b2 l1 c1 l2 c2 w10 (NV.out.frame f10) (N2.out.frame f10) SZ3 sz_zero
          have he : decide (x3 = (rgT).o) = true := decide_eq_true HZ3.out
          rw [he] at AL
          have AL := Lib.hid AL
          clear he
          have F10 := Lib.hid (F9.out.trans1 f10)
          clear f10
          go_wp2_with fail
          refine AL.out.mono ?_
          rintro e w11 ⟨rfl, f11⟩
          have F10 := Lib.hid (F10.out.trans1 f11)
          clear f11
          go_wp2_with fail
          go_roundw
          case rel => exact ⟨4, by omega, by omega, by first | trivial | rfl | go_num, F10⟩
          case measure => first | (simp [intOf]; done) | (simp [intOf]; omega)
      · go_wp2_with fail
        refine (AT4.out _ hR.out).mono ?_
        rintro e w6 ⟨v, rfl, iv, f6⟩
        obtain ⟨rfl, hv0, hv1⟩ := iv
        go_upto_region 12 with fail
        have B1 := Lib.hid (Blk.new w6 37 #[.int .i64 4, .bool false, .slice none 0 0, .int .i64 x4, .float .f64 0])
        have f7 := f6.trans1 (Frame.alloc [] w6 (.cells #[.int .i64 4, .bool false, .slice none 0 0, .int .i64 x4, .float .f64 0] 37))
        generalize w6.alloc (.cells #[.int .i64 4, .bool false, .slice none 0 0, .int .i64 x4, .float .f64 0] 37) = w7 at *
        generalize w6.heap.size = q1 at *
        have F7 := Lib.hid (hR.out.trans1 f7)
        clear f6 f7
        go_wp2_with fail
        refine (one1_4 _).mono ?_
        rintro e w8 ⟨v, rfl, iv, f8⟩
        obtain ⟨rfl, ho⟩ := iv
        have HO := Lib.hid ho
        clear ho
        generalize hoo : (rgL 4).o = o at *
        go_upto_region 13 with fail
        have B2 := Lib.hid (Blk.new w8 37 #[.int .i64 4, .bool false, .slice none 0 0, .int .i64 o, .float .f64 0])
        have f9 := f8.trans1 (Frame.alloc [] w8 (.cells #[.int .i64 4, .bool false, .slice none 0 0, .int .i64 o, .float .f64 0] 37))
        have B1 := Lib.hid (B1.out.frame f9 (by simp))
        generalize w8.alloc (.cells #[.int .i64 4, .bool false, .slice none 0 0, .int .i64 o, .float .f64 0] 37) = w9 at *
        generalize w8.heap.size = q2 at *
        have F9 := Lib.hid (F7.out.trans1 f9)
        clear f8 f9
        have x_0 := B1.out.at 0 rfl
        have x_1 := B1.out.at 1 rfl
        have x_2 := B1.out.at 2 rfl
        have x_3 := B1.out.at 3 rfl
        have x_4 := B1.out.at 4 rfl
        have IZ := isz1_4 x4 w9 hv0 hv1
        have hne := ((two_L (.inr rfl))).ne
        rw [hoo] at hne
        have hd : decide (x4 = (rgL 4).z) = !yes := by
          rw [HZ4.out]
          cases yes
          · simp
          · simp; exact fun h => hne h.symm
        rw [hd] at IZ
        have IZ := Lib.hid IZ
        clear hd hne
        cases yes with
        | false =>
          go_wp2_with fail
          refine IZ.out.mono ?_
          rintro e w10 ⟨rfl, f10⟩
          have F10 := Lib.hid (F9.out.trans1 f10)
          clear f10
          go_wp2_with fail
          go_roundw
          case rel => exact ⟨5, by omega, by omega, by first | trivial | rfl | go_num, F10⟩
          case measure => first | (simp [intOf]; done) | (simp [intOf]; omega)
        | true =>
          go_wp2_with fail
          refine IZ.out.mono ?_
          rintro e w10 ⟨rfl, f10⟩
          have x_0 := (B1.out.frame f10 (by simp)).at 0 rfl
          have y_0 := (B2.out.frame f10 (by simp)).at 0 rfl
          have x_1 := (B1.out.frame f10 (by simp)).at 1 rfl
          have y_1 := (B2.out.frame f10 (by simp)).at 1 rfl
          have x_2 := (B1.out.frame f10 (by simp)).at 2 rfl
          have y_2 := (B2.out.frame f10 (by simp)).at 2 rfl
          have x_3 := (B1.out.frame f10 (by simp)).at 3 rfl
          have y_3 := (B2.out.frame f10 (by simp)).at 3 rfl
          have x_4 := (B1.out.frame f10 (by simp)).at 4 rfl
          have y_4 := (B2.out.frame f10 (by simp)).at 4 rfl
          have AL := alike_4 x4 o w10 ⟨hv0, hv1⟩ HO.out
          have he : decide (x4 = o) = true := decide_eq_true (by have := HZ4.out; simpa using this)
          rw [he] at AL
          have AL := Lib.hid AL
          clear he
          have F10 := Lib.hid (F9.out.trans1 f10)
          clear f10
          go_wp2_with fail
          refine AL.out.mono ?_
          rintro e w11 ⟨rfl, f11⟩
          have F10 := Lib.hid (F10.out.trans1 f11)
          clear f11
          go_wp2_with fail
          go_roundw
          case rel => exact ⟨5, by omega, by omega, by first | trivial | rfl | go_num, F10⟩
          case measure => first | (simp [intOf]; done) | (simp [intOf]; omega)
      · go_wp2_with fail
        refine (AT5.out _ hR.out).mono ?_
        rintro e w6 ⟨v, rfl, iv, f6⟩
        obtain ⟨rfl, hv⟩ := iv
        go_upto_region 12 with fail
        have B1 := Lib.hid (Blk.new w6 37 #[.int .i64 5, .bool false, .slice none 0 0, .int .i64 0, .float .f64 x5])
        have f7 := f6.trans1 (Frame.alloc [] w6 (.cells #[.int .i64 5, .bool false, .slice none 0 0, .int .i64 0, .float .f64 x5] 37))
        generalize w6.alloc (.cells #[.int .i64 5, .bool false, .slice none 0 0, .int .i64 0, .float .f64 x5] 37) = w7 at *
        generalize w6.heap.size = q1 at *
        have F7 := Lib.hid (hR.out.trans1 f7)
        clear f6 f7
        go_wp2_with fail
        refine (one1_5 _).mono ?_
        rintro e w8 ⟨v, rfl, iv, f8⟩
        obtain ⟨rfl, ho⟩ := iv
        have HO := Lib.hid ho
        clear ho
        generalize hoo : (rgF5).o = o at *
        go_upto_region 13 with fail
        have B2 := Lib.hid (Blk.new w8 37 #[.int .i64 5, .bool false, .slice none 0 0, .int .i64 0, .float .f64 o])
        have f9 := f8.trans1 (Frame.alloc [] w8 (.cells #[.int .i64 5, .bool false, .slice none 0 0, .int .i64 0, .float .f64 o] 37))
        have B1 := Lib.hid (B1.out.frame f9 (by simp))
        generalize w8.alloc (.cells #[.int .i64 5, .bool false, .slice none 0 0, .int .i64 0, .float .f64 o] 37) = w9 at *
        generalize w8.heap.size = q2 at *
        have F9 := Lib.hid (F7.out.trans1 f9)
        clear f8 f9
        have x_0 := B1.out.at 0 rfl
        have x_1 := B1.out.at 1 rfl
        have x_2 := B1.out.at 2 rfl
        have x_3 := B1.out.at 3 rfl
        have x_4 := B1.out.at 4 rfl
        have IZ := isz1_5 x5 w9 hv
        have hne := (two_5).ne
        rw [hoo] at hne
        have hd : decide (x5 = (rgF5).z) = !yes := by
          rw [HZ5.out]
          cases yes
          · simp
          · simp; exact fun h => hne h.symm
        rw [hd] at IZ
        have IZ := Lib.hid IZ
        clear hd hne
        cases yes with
        | false =>
          go_wp2_with fail
          refine IZ.out.mono ?_
          rintro e w10 ⟨rfl, f10⟩
          have F10 := Lib.hid (F9.out.trans1 f10)
          clear f10
          go_wp2_with fail
          go_roundw
          case rel => exact ⟨6, by omega, by omega, by first | trivial | rfl | go_num, F10⟩
          case measure => first | (simp [intOf]; done) | (simp [intOf]; omega)
        | true =>
          go_wp2_with fail
          refine IZ.out.mono ?_
          rintro e w10 ⟨rfl, f10⟩
          have x_0 := (B1.out.frame f10 (by simp)).at 0 rfl
          have y_0 := (B2.out.frame f10 (by simp)).at 0 rfl
          have x_1 := (B1.out.frame f10 (by simp)).at 1 rfl
          have y_1 := (B2.out.frame f10 (by simp)).at 1 rfl
          have x_2 := (B1.out.frame f10 (by simp)).at 2 rfl
          have y_2 := (B2.out.frame f10 (by simp)).at 2 rfl
          have x_3 := (B1.out.frame f10 (by simp)).at 3 rfl
          have y_3 := (B2.out.frame f10 (by simp)).at 3 rfl
          have x_4 := (B1.out.frame f10 (by simp)).at 4 rfl
          have y_4 := (B2.out.frame f10 (by simp)).at 4 rfl
          have AL := alike_5 x5 o w10 hv HO.out
          have he : decide (x5 = o) = true := decide_eq_true (by have := HZ5.out; simpa using this)
          rw [he] at AL
          have AL := Lib.hid AL
          clear he
          have F10 := Lib.hid (F9.out.trans1 f10)
          clear f10
          go_wp2_with fail
          refine AL.out.mono ?_
          rintro e w11 ⟨rfl, f11⟩
          have F10 := Lib.hid (F10.out.trans1 f11)
          clear f11
          go_wp2_with fail
          go_roundw
          case rel => exact ⟨6, by omega, by omega, by first | trivial | rfl | go_num, F10⟩
          case measure => first | (simp [intOf]; done) | (simp [intOf]; omega)
      · go_wp2_with fail
        refine (AT6.out _ hR.out).mono ?_
        rintro e w6 ⟨v, rfl, iv, f6⟩
        obtain ⟨rfl, hv⟩ := iv
        go_upto_region 12 with fail
        have B1 := Lib.hid (Blk.new w6 37 #[.int .i64 6, .bool false, .slice none 0 0, .int .i64 0, .float .f64 x6])
        have f7 := f6.trans1 (Frame.alloc [] w6 (.cells #[.int .i64 6, .bool false, .slice none 0 0, .int .i64 0, .float .f64 x6] 37))
        generalize w6.alloc (.cells #[.int .i64 6, .bool false, .slice none 0 0, .int .i64 0, .float .f64 x6] 37) = w7 at *
        generalize w6.heap.size = q1 at *
        have F7 := Lib.hid (hR.out.trans1 f7)
        clear f6 f7
        go_wp2_with fail
        refine (one1_6 _).mono ?_
        rintro e w8 ⟨v, rfl, iv, f8⟩
        obtain ⟨rfl, ho⟩ := iv
        have HO := Lib.hid ho
        clear ho
        generalize hoo : (rgF6).o = o at *
        go_upto_region 13 with fail
        have B2 := Lib.hid (Blk.new w8 37 #[.int .i64 6, .bool false, .slice none 0 0, .int .i64 0, .float .f64 o])
        have f9 := f8.trans1 (Frame.alloc [] w8 (.cells #[.int .i64 6, .bool false, .slice none 0 0, .int .i64 0, .float .f64 o] 37))
        have B1 := Lib.hid (B1.out.frame f9 (by simp))
        generalize w8.alloc (.cells #[.int .i64 6, .bool false, .slice none 0 0, .int .i64 0, .float .f64 o] 37) = w9 at *
        generalize w8.heap.size = q2 at *
        have F9 := Lib.hid (F7.out.trans1 f9)
        clear f8 f9
        have x_0 := B1.out.at 0 rfl
        have x_1 := B1.out.at 1 rfl
        have x_2 := B1.out.at 2 rfl
        have x_3 := B1.out.at 3 rfl
        have x_4 := B1.out.at 4 rfl
        have IZ := isz1_6 x6 w9 hv
        have hne := (two_6).ne
        rw [hoo] at hne
        have hd : decide (x6 = (rgF6).z) = !yes := by
          rw [HZ6.out]
          cases yes
          · simp
          · simp; exact fun h => hne h.symm
        rw [hd] at IZ
        have IZ := Lib.hid IZ
        clear hd hne
        cases yes with
        | false =>
          go_wp2_with fail
          refine IZ.out.mono ?_
          rintro e w10 ⟨rfl, f10⟩
          have F10 := Lib.hid (F9.out.trans1 f10)
          clear f10
          go_wp2_with fail
          go_roundw
          case rel => exact ⟨7, by omega, by omega, by first | trivial | rfl | go_num, F10⟩
          case measure => first | (simp [intOf]; done) | (simp [intOf]; omega)
        | true =>
          go_wp2_with fail
          refine IZ.out.mono ?_
          rintro e w10 ⟨rfl, f10⟩
          have x_0 := (B1.out.frame f10 (by simp)).at 0 rfl
          have y_0 := (B2.out.frame f10 (by simp)).at 0 rfl
          have x_1 := (B1.out.frame f10 (by simp)).at 1 rfl
          have y_1 := (B2.out.frame f10 (by simp)).at 1 rfl
          have x_2 := (B1.out.frame f10 (by simp)).at 2 rfl
          have y_2 := (B2.out.frame f10 (by simp)).at 2 rfl
          have x_3 := (B1.out.frame f10 (by simp)).at 3 rfl
          have y_3 := (B2.out.frame f10 (by simp)).at 3 rfl
          have x_4 := (B1.out.frame f10 (by simp)).at 4 rfl
          have y_4 := (B2.out.frame f10 (by simp)).at 4 rfl
          have AL := alike_6 x6 o w10 hv HO.out
          have he : decide (x6 = o) = true := decide_eq_true (by have := HZ6.out; simpa using this)
          rw [he] at AL
          have AL := Lib.hid AL
          clear he
          have F10 := Lib.hid (F9.out.trans1 f10)
          clear f10
          go_wp2_with fail
          refine AL.out.mono ?_
          rintro e w11 ⟨rfl, f11⟩
          have F10 := Lib.hid (F10.out.trans1 f11)
          clear f11
          go_wp2_with fail
          go_roundw
          case rel => exact ⟨7, by omega, by omega, by first | trivial | rfl | go_num, F10⟩
          case measure => first | (simp [intOf]; done) | (simp [intOf]; omega)
      · go_wp2_with fail
        refine (awake14 _).mono ?_
        rintro e w6 ⟨rfl, f6⟩
        go_wp2_with fail
        go_ret
        exact ⟨rfl, (F3.out.trans1 hR.out).trans1 f6⟩
end Go.Proofs.YtbnhhmejlglbcaaGreat

