/- The law EvalGrows, walked. (printed by gen_grows.py) -/
import Derived.Test.YtbnhhmejlglbcaaMg48
import Derived.Test.YtbnhhmejlglbcaaMg47
import Derived.Test.YtbnhhmejlglbcaaMg44
import Derived.Test.YtbnhhmejlglbcaaMg27
import Derived.Test.YtbnhhmejlglbcaaMg28
namespace Go.Proofs.Ytbnhhmejlglbcaa
open Go.RowKit
set_option linter.unusedSimpArgs false
set_option linter.unusedVariables false

/-! ### more weight is no worse -/
def leO (x y : Option Nat) : Prop := match x, y with
  | _, none => True
  | none, some _ => False
  | some m, some n => m ≤ n
theorem leO_refl (x : Option Nat) : leO x x := by cases x <;> simp [leO]
theorem leO_zero (x : Option Nat) : leO (some 0) x := by cases x <;> simp [leO]
theorem leO_add {x y x' y' : Option Nat} (h : leO x x') (k : leO y y') : leO (addO x y) (addO x' y') := by
  cases x <;> cases y <;> cases x' <;> cases y' <;> simp_all [leO, addO] <;> omega
theorem leO_mul {x y x' y' : Option Nat} (h : leO x x') (k : leO y y') : leO (mulO x y) (mulO x' y') := by
  cases x' with
  | none =>
    cases y' with
    | none => simp only [mulO]; cases mulO x y <;> trivial
    | some n' =>
      cases y with
      | none => simp [leO] at k
      | some n =>
        have hn : n ≤ n' := k
        simp only [mulO]
        by_cases h0 : n' = 0
        · have : n = 0 := by omega
          subst this h0
          rw [if_pos rfl]
          cases x <;> simp [mulO, leO]
        · rw [if_neg h0]; cases mulO x (some n) <;> trivial
  | some m' =>
    cases x with
    | none => simp [leO] at h
    | some m =>
      have hm : m ≤ m' := h
      cases y' with
      | none =>
        simp only [mulO]
        by_cases h0 : m' = 0
        · have : m = 0 := by omega
          subst this h0
          rw [if_pos rfl]
          cases y <;> simp [mulO, leO]
        · rw [if_neg h0]; cases mulO (some m) y <;> trivial
      | some n' =>
        cases y with
        | none => simp [leO] at k
        | some n => exact Nat.mul_le_mul hm k
theorem leO_star {x x' : Option Nat} (h : leO x x') : leO (starO x) (starO x') := by
  unfold starO
  by_cases h1 : x' = some 0
  · subst h1
    have : x = some 0 := by cases x <;> simp_all [leO]
    rw [if_pos rfl, if_pos this]; exact leO_refl _
  · rw [if_neg h1]; split <;> trivial
theorem leO_cmp {x y : Option Nat} (h : leO y x) : decide (0 ≤ cmpO x y) = true := by
  apply decide_eq_true
  cases x <;> cases y <;> simp_all [leO, cmpO, cmpZ]
  omega
theorem grows_C {l : List Gt} (hI : Inv l) {w w' : Int → Option Nat} (h : ∀ t, leO (w t) (w' t)) : ∀ k, leO (worth rgN1 w l k) (worth rgN1 w' l k) := by
  intro k
  induction k using Nat.strongRecOn with
  | _ k ih =>
    cases hg : l[k]? with
    | none => unfold worth; rw [worthF, worthF, hg]; exact leO_refl _
    | some g =>
      rw [worth_at hI hg, worth_at hI hg]
      unfold gval
      by_cases h2 : g.k = 2
      · rw [if_pos h2, if_pos h2]; exact leO_refl _
      rw [if_neg h2, if_neg h2]
      by_cases h3 : g.k = 3
      · rw [if_pos h3, if_pos h3]; exact h _
      rw [if_neg h3, if_neg h3]
      by_cases h4 : g.k = 4
      · obtain ⟨a, ha, ha1, _⟩ := wf_nat hI hg (by omega)
        obtain ⟨b, hb, hb1, _⟩ := wf_nat2 hI hg (.inl h4)
        rw [if_pos h4, if_pos h4, ha, hb, Int.toNat_natCast, Int.toNat_natCast]
        exact leO_add (ih a ha1) (ih b hb1)
      rw [if_neg h4, if_neg h4]
      by_cases h5 : g.k = 5
      · obtain ⟨a, ha, ha1, _⟩ := wf_nat hI hg (by omega)
        obtain ⟨b, hb, hb1, _⟩ := wf_nat2 hI hg (.inr h5)
        rw [if_pos h5, if_pos h5, ha, hb, Int.toNat_natCast, Int.toNat_natCast]
        exact leO_mul (ih a ha1) (ih b hb1)
      rw [if_neg h5, if_neg h5]
      by_cases h6 : g.k = 6
      · obtain ⟨a, ha, ha1, _⟩ := wf_nat hI hg (by omega)
        rw [if_pos h6, if_pos h6, ha, Int.toNat_natCast]
        exact leO_star (ih a ha1)
      rw [if_neg h6, if_neg h6]; exact leO_refl _
theorem grows_count {l : List Gt} (hI : Inv l) (ts : List Int) (k : Nat) : leO (worth rgN1 (onesW rgN1 ts) l k) (worth rgN1 (onesW rgN1 []) l k) :=
  grows_C hI (fun t => by
    unfold onesW
    rw [if_pos (show decide (¬ t ∈ ([] : List Int)) = true by simp)]
    split
    · exact leO_refl _
    · exact leO_zero _) k
theorem grows_two {V : Type} {R : Rg V} (h : TwoV R) {l : List Gt} (hI : Inv l) (ts : List Int) (k : Nat) : R.p (worth R (onesW R []) l k) (worth R (onesW R ts) l k) = worth R (onesW R []) l k := by
  rw [ones_two h hI, ones_two h hI]
  have hm : worth rgB (fun t => decide (¬ t ∈ ts)) l k = true → worth rgB (fun t => decide (¬ t ∈ ([] : List Int))) l k = true := worthB_mono hI (fun t _ => by simp) k
  cases h1 : worth rgB (fun t => decide (¬ t ∈ ts)) l k <;> cases h2 : worth rgB (fun t => decide (¬ t ∈ ([] : List Int))) l k
  · simp [h.pzz]
  · simp [h.poz]
  · rw [hm h1] at h2; cases h2
  · simp [h.poo]

set_option maxRecDepth 100000 in
theorem evalGrows_out (a : Option Addr) (n cap : Nat) (r sm : Int) (ta : Option Addr) (tn tc : Nat) (w : World) (h : 14 < n ∨ 20 < tn) (hn : n ≤ 9223372036854775807) (htn : tn ≤ 9223372036854775807) :
    Calls Try.prog 3 #[.slice a n cap, .int .i64 r, .int .i64 sm, .slice ta tn tc] w fun e w' => e = .returned (.bool true) ∧ Frame [] w w' := by
  by_cases h1 : 14 < n
  · have d1 : decide ((14 : Int) < n) = true := decide_eq_true (by omega)
    clear h
    go_enter Try.func3, Try.ntmps3
    go_wp2_with fail
    refine (awake14 _).mono ?_
    rintro e w1 ⟨rfl, f1⟩
    go_wp2_with fail
    go_ret
    exact ⟨rfl, f1⟩
  · have d1 : decide ((14 : Int) < n) = false := decide_eq_false (by omega)
    have d2 : decide ((20 : Int) < tn) = true := decide_eq_true (by omega)
    clear h
    go_enter Try.func3, Try.ntmps3
    go_wp2_with fail
    refine (awake14 _).mono ?_
    rintro e w1 ⟨rfl, f1⟩
    go_wp2_with fail
    go_ret
    exact ⟨rfl, f1⟩
theorem round_natG (r : Int) (n : Nat) (hn : 1 ≤ n) : ∃ root : Nat, r % (n : Int) = root ∧ root < n := by
  have h1 := Int.emod_nonneg r (show (n : Int) ≠ 0 by omega)
  have h2 := Int.emod_lt_of_pos r (show (0 : Int) < n by omega)
  exact ⟨(r % n).toNat, by omega, by omega⟩

set_option maxHeartbeats 4000000 in
set_option maxRecDepth 100000 in
theorem evalGrows_in (a : Option Addr) (cap : Nat) (xs : List St3) (r sm : Int) (ta : Option Addr) (tc : Nat) (ts : List Int) (w : World) (hx : RdS w 3 St3.enc St3.ok a xs) (hl : xs.length ≤ 14) (hr : okI w r) (hs : okI w sm) (ht : RdI w ta ts) (htl : ts.length ≤ 20) :
    Calls Try.prog 3 #[.slice a xs.length cap, .int .i64 r, .int .i64 sm, .slice ta ts.length tc] w fun e w' => e = .returned (.bool true) ∧ Frame [] w w' := by
  have hst := fun (w : World) (a : Addr) (q : Nat) (m : Mode) => run_store Try.prog w a (.float .f64 q) m rfl
  have d1 : decide ((14 : Int) < xs.length) = false := decide_eq_false (by omega)
  have d2 : decide ((20 : Int) < ts.length) = false := decide_eq_false (by omega)
  have MA := Lib.hid (made14_any a cap xs w hx (by omega))
  have hok := gatesM_ok xs
  have HT := Lib.hid ht
  clear hx ht
  generalize gatesM xs = l at *
  have hl1 := hok.len
  have hl2 := hok.two
  have HOK := Lib.hid hok
  clear hok
  obtain ⟨root, hroot, hrl⟩ := round_natG r l.length (by omega)
  have RA := Lib.hid (fun w => round_any r l.length w (by omega) (by omega) hr.1 hr.2)
  rw [hroot] at RA
  clear hroot hr
  obtain ⟨sn, hsem, hsl⟩ := round_natG sm 6 (by omega)
  have RS := Lib.hid (fun w => round_any sm 6 w (by omega) (by omega) hs.1 hs.2)
  rw [show sm % (6 : Int) = sn from hsem] at RS
  clear hsem hs
  obtain ⟨bg, hbg⟩ : ∃ bg, bigV l = bg := ⟨_, rfl⟩
  have HBG := Lib.hid hbg
  clear hbg
  go_enter Try.func3, Try.ntmps3
  go_wp2_with fail
  refine MA.out.mono ?_
  rintro e w2 ⟨pb, rb, rfl, F, F2, s2, r2, f2, n2, -⟩
  have BG := Lib.hid (big_any rb F2 l 1000 w2 r2 HOK.out.inv HOK.out.kn.knd (by omega))
  rw [HBG.out] at BG
  have A := Lib.hid (And.intro s2 (And.intro r2 f2))
  clear s2 r2 f2 n2 MA
  cases bg with
  | true =>
    go_wp2_with fail
    refine BG.out.mono ?_
    rintro e w3 ⟨rfl, f3⟩
    have F3 := Lib.hid (A.out.2.2.trans1 f3)
    clear f3
    go_wp2_with fail
    refine (awake14 _).mono ?_
    rintro e w4 ⟨rfl, f4⟩
    go_wp2_with fail
    go_ret
    exact ⟨rfl, F3.out.trans1 f4⟩
  | false =>
    go_wp2_with fail
    refine BG.out.mono ?_
    rintro e w3 ⟨rfl, f3⟩
    obtain ⟨ra, rc, rG, rb1, -, -, -⟩ := A.out.2.1.frame0 f3
    have z0 := rb1.at 0 rfl
    have F3 := Lib.hid (A.out.2.2.trans1 f3)
    have S3 := Lib.hid (A.out.1.frame0 f3)
    have T3 := Lib.hid (HT.out.frame (A.out.2.2.trans1 f3))
    clear f3 rb1 BG
    go_wp2_with fail
    refine (RS.out _).mono ?_
    rintro e w3 ⟨rfl, rfl⟩
    clear RS
    go_wp2_with fail
    refine (RA.out _).mono ?_
    rintro e w3 ⟨rfl, rfl⟩
    clear z0 RA
    have hk : sn = 0 ∨ sn = 1 ∨ sn = 2 ∨ sn = 3 ∨ sn = 4 ∨ sn = 5 := by omega
    clear hsl
    rcases hk with rfl | rfl | rfl | rfl | rfl | rfl
    · have AT := fun w' (f : Frame [] w3 w') => at_ones semOk_1 (fun _ => none) pb F l (1000 - l.length) HOK.out.inv root hrl (by omega) w' (S3.out.frame0 f) (fit_C HOK.out.inv (sz_C HOK.out.inv (by omega) HBG.out (bd_onesC []) (by decide)))
      have WO := fun w' (f : Frame [] w3 w') => without_ones semOk_1 (fun _ => none) pb F l (1000 - l.length) HOK.out.inv root hrl (by omega) ta tc ts w' (S3.out.frame0 f) (T3.out.frame f) (by omega) (fit_C HOK.out.inv (sz_C HOK.out.inv (by omega) HBG.out (bd_onesC ts) (by decide)))
      have sA := sz_C HOK.out.inv (by omega) HBG.out (bd_onesC []) (by decide) root hrl
      have sB := sz_C HOK.out.inv (by omega) HBG.out (bd_onesC ts) (by decide) root hrl
      have hg := grows_count HOK.out.inv ts root
      generalize worth (rgN1) (onesW (rgN1) []) l root = x at *
      generalize worth (rgN1) (onesW (rgN1) ts) l root = y at *
      have AT := Lib.hid AT
      have WO := Lib.hid WO
      have HG := Lib.hid hg
      clear hg
      have SA := Lib.hid sA
      have SB := Lib.hid sB
      clear sA sB
      go_wp2_with fail
      refine (AT.out _ (Frame.refl _ _)).mono ?_
      rintro e w6 ⟨v, rfl, iv, f6⟩
      obtain ⟨i, b1, l1, c1, rfl, nv⟩ := iv
      go_upto_region 9 with fail
      have B1 := Lib.hid (Blk.new w6 39 #[.int .i64 1, .bool i, .slice b1 l1 c1, .int .i64 0, .float .f64 0])
      have f7 := f6.trans1 (Frame.alloc [] w6 (.cells #[.int .i64 1, .bool i, .slice b1 l1 c1, .int .i64 0, .float .f64 0] 39))
      have NV := Lib.hid (nv.frame (Frame.alloc [] w6 (.cells #[.int .i64 1, .bool i, .slice b1 l1 c1, .int .i64 0, .float .f64 0] 39)))
      clear nv
      generalize w6.alloc (.cells #[.int .i64 1, .bool i, .slice b1 l1 c1, .int .i64 0, .float .f64 0] 39) = w7 at *
      generalize w6.heap.size = q1 at *
      have F7 := Lib.hid f7
      clear f6 f7
      go_wp2_with fail
      refine (WO.out _ F7.out).mono ?_
      rintro e w8 ⟨v, rfl, iv, f8⟩
      obtain ⟨j, b2, l2, c2, rfl, nv⟩ := iv
      go_upto_region 10 with fail
      have B2 := Lib.hid (Blk.new w8 39 #[.int .i64 1, .bool j, .slice b2 l2 c2, .int .i64 0, .float .f64 0])
      have f9 := f8.trans1 (Frame.alloc [] w8 (.cells #[.int .i64 1, .bool j, .slice b2 l2 c2, .int .i64 0, .float .f64 0] 39))
      have N2 := Lib.hid (nv.frame (Frame.alloc [] w8 (.cells #[.int .i64 1, .bool j, .slice b2 l2 c2, .int .i64 0, .float .f64 0] 39)))
      have NV := Lib.hid (NV.out.frame f9)
      clear nv
      have B1 := Lib.hid (B1.out.frame f9 (by simp))
      generalize w8.alloc (.cells #[.int .i64 1, .bool j, .slice b2 l2 c2, .int .i64 0, .float .f64 0] 39) = w9 at *
      generalize w8.heap.size = q2 at *
      have F9 := Lib.hid (F7.out.trans1 f9)
      clear f8 f9
      have x_0 := B1.out.at 0 rfl
      have y_0 := B2.out.at 0 rfl
      have x_1 := B1.out.at 1 rfl
      have y_1 := B2.out.at 1 rfl
      have x_2 := B1.out.at 2 rfl
      have y_2 := B2.out.at 2 rfl
      have x_3 := B1.out.at 3 rfl
      have y_3 := B2.out.at 3 rfl
      have x_4 := B1.out.at 4 rfl
      have y_4 := B2.out.at 4 rfl
      have BT := better_1 x y i j b1 b2 l1 c1 l2 c2 w9 NV.out N2.out SA.out SB.out
      rw [leO_cmp HG.out] at BT
      have BT := Lib.hid BT
      go_wp2_with fail
      refine BT.out.mono ?_
      rintro e w10 ⟨rfl, f10⟩
      have F10 := Lib.hid (F9.out.trans1 f10)
      clear f10
      go_wp2_with fail
      refine (awake14 _).mono ?_
      rintro e w11 ⟨rfl, f11⟩
      go_wp2_with fail
      go_ret
      exact ⟨rfl, (F3.out.trans1 F10.out).trans1 f11⟩
    · have AT := fun w' (f : Frame [] w3 w') => at_ones semOk_2 (fun _ => 0) pb F l (1000 - l.length) HOK.out.inv root hrl (by omega) w' (S3.out.frame0 f) (fit_any _)
      have WO := fun w' (f : Frame [] w3 w') => without_ones semOk_2 (fun _ => 0) pb F l (1000 - l.length) HOK.out.inv root hrl (by omega) ta tc ts w' (S3.out.frame0 f) (T3.out.frame f) (by omega) (fit_any _)
      have hg := grows_two (two_L (.inl rfl)) HOK.out.inv ts root
      generalize worth (rgL 2) (onesW (rgL 2) []) l root = x at *
      generalize worth (rgL 2) (onesW (rgL 2) ts) l root = y at *
      have AT := Lib.hid AT
      have WO := Lib.hid WO
      have HG := Lib.hid hg
      clear hg
      go_wp2_with fail
      refine (AT.out _ (Frame.refl _ _)).mono ?_
      rintro e w6 ⟨v, rfl, iv, f6⟩
      obtain ⟨rfl, hv⟩ := iv
      have HV := Lib.hid hv
      clear hv
      go_upto_region 9 with fail
      have B1 := Lib.hid (Blk.new w6 39 #[.int .i64 2, .bool false, .slice none 0 0, .int .i64 x, .float .f64 0])
      have f7 := f6.trans1 (Frame.alloc [] w6 (.cells #[.int .i64 2, .bool false, .slice none 0 0, .int .i64 x, .float .f64 0] 39))
      generalize w6.alloc (.cells #[.int .i64 2, .bool false, .slice none 0 0, .int .i64 x, .float .f64 0] 39) = w7 at *
      generalize w6.heap.size = q1 at *
      have F7 := Lib.hid f7
      clear f6 f7
      go_wp2_with fail
      refine (WO.out _ F7.out).mono ?_
      rintro e w8 ⟨v, rfl, iv, f8⟩
      obtain ⟨rfl, hv⟩ := iv
      have HW := Lib.hid hv
      clear hv
      go_upto_region 10 with fail
      have B2 := Lib.hid (Blk.new w8 39 #[.int .i64 2, .bool false, .slice none 0 0, .int .i64 y, .float .f64 0])
      have f9 := f8.trans1 (Frame.alloc [] w8 (.cells #[.int .i64 2, .bool false, .slice none 0 0, .int .i64 y, .float .f64 0] 39))
      have B1 := Lib.hid (B1.out.frame f9 (by simp))
      generalize w8.alloc (.cells #[.int .i64 2, .bool false, .slice none 0 0, .int .i64 y, .float .f64 0] 39) = w9 at *
      generalize w8.heap.size = q2 at *
      have F9 := Lib.hid (F7.out.trans1 f9)
      clear f8 f9
      have x_0 := B1.out.at 0 rfl
      have y_0 := B2.out.at 0 rfl
      have x_1 := B1.out.at 1 rfl
      have y_1 := B2.out.at 1 rfl
      have x_2 := B1.out.at 2 rfl
      have y_2 := B2.out.at 2 rfl
      have x_3 := B1.out.at 3 rfl
      have y_3 := B2.out.at 3 rfl
      have x_4 := B1.out.at 4 rfl
      have y_4 := B2.out.at 4 rfl
      have BT := better_2 x y w9 HV.out HW.out
      rw [show decide ((rgL 2).p x y = x) = true from decide_eq_true HG.out] at BT
      have BT := Lib.hid BT
      go_wp2_with fail
      refine BT.out.mono ?_
      rintro e w10 ⟨rfl, f10⟩
      have F10 := Lib.hid (F9.out.trans1 f10)
      clear f10
      go_wp2_with fail
      refine (awake14 _).mono ?_
      rintro e w11 ⟨rfl, f11⟩
      go_wp2_with fail
      go_ret
      exact ⟨rfl, (F3.out.trans1 F10.out).trans1 f11⟩
    · have AT := fun w' (f : Frame [] w3 w') => at_ones semOk_3 (fun _ => none) pb F l (1000 - l.length) HOK.out.inv root hrl (by omega) w' (S3.out.frame0 f) (fit_T HOK.out.inv (sz_T HOK.out.inv (by omega) (bd_onesT []) (by decide)))
      have WO := fun w' (f : Frame [] w3 w') => without_ones semOk_3 (fun _ => none) pb F l (1000 - l.length) HOK.out.inv root hrl (by omega) ta tc ts w' (S3.out.frame0 f) (T3.out.frame f) (by omega) (fit_T HOK.out.inv (sz_T HOK.out.inv (by omega) (bd_onesT ts) (by decide)))
      have sA := sz_T HOK.out.inv (by omega) (bd_onesT []) (by decide) root hrl
      have sB := sz_T HOK.out.inv (by omega) (bd_onesT ts) (by decide) root hrl
      have hg := grows_two two_T HOK.out.inv ts root
      generalize worth (rgT) (onesW (rgT) []) l root = x at *
      generalize worth (rgT) (onesW (rgT) ts) l root = y at *
      have AT := Lib.hid AT
      have WO := Lib.hid WO
      have HG := Lib.hid hg
      clear hg
      have SA := Lib.hid sA
      have SB := Lib.hid sB
      clear sA sB
      go_wp2_with fail
      refine (AT.out _ (Frame.refl _ _)).mono ?_
      rintro e w6 ⟨v, rfl, iv, f6⟩
      obtain ⟨i, b1, l1, c1, rfl, nv⟩ := iv
      go_upto_region 9 with fail
      have B1 := Lib.hid (Blk.new w6 39 #[.int .i64 3, .bool i, .slice b1 l1 c1, .int .i64 0, .float .f64 0])
      have f7 := f6.trans1 (Frame.alloc [] w6 (.cells #[.int .i64 3, .bool i, .slice b1 l1 c1, .int .i64 0, .float .f64 0] 39))
      have NV := Lib.hid (nv.frame (Frame.alloc [] w6 (.cells #[.int .i64 3, .bool i, .slice b1 l1 c1, .int .i64 0, .float .f64 0] 39)))
      clear nv
      generalize w6.alloc (.cells #[.int .i64 3, .bool i, .slice b1 l1 c1, .int .i64 0, .float .f64 0] 39) = w7 at *
      generalize w6.heap.size = q1 at *
      have F7 := Lib.hid f7
      clear f6 f7
      go_wp2_with fail
      refine (WO.out _ F7.out).mono ?_
      rintro e w8 ⟨v, rfl, iv, f8⟩
      obtain ⟨j, b2, l2, c2, rfl, nv⟩ := iv
      go_upto_region 10 with fail
      have B2 := Lib.hid (Blk.new w8 39 #[.int .i64 3, .bool j, .slice b2 l2 c2, .int .i64 0, .float .f64 0])
      have f9 := f8.trans1 (Frame.alloc [] w8 (.cells #[.int .i64 3, .bool j, .slice b2 l2 c2, .int .i64 0, .float .f64 0] 39))
      have N2 := Lib.hid (nv.frame (Frame.alloc [] w8 (.cells #[.int .i64 3, .bool j, .slice b2 l2 c2, .int .i64 0, .float .f64 0] 39)))
      have NV := Lib.hid (NV.out.frame f9)
      clear nv
      have B1 := Lib.hid (B1.out.frame f9 (by simp))
      generalize w8.alloc (.cells #[.int .i64 3, .bool j, .slice b2 l2 c2, .int .i64 0, .float .f64 0] 39) = w9 at *
      generalize w8.heap.size = q2 at *
      have F9 := Lib.hid (F7.out.trans1 f9)
      clear f8 f9
      have x_0 := B1.out.at 0 rfl
      have y_0 := B2.out.at 0 rfl
      have x_1 := B1.out.at 1 rfl
      have y_1 := B2.out.at 1 rfl
      have x_2 := B1.out.at 2 rfl
      have y_2 := B2.out.at 2 rfl
      have x_3 := B1.out.at 3 rfl
      have y_3 := B2.out.at 3 rfl
      have x_4 := B1.out.at 4 rfl
      have y_4 := B2.out.at 4 rfl
      have BT := better_3 x y i j b1 b2 l1 c1 l2 c2 w9 NV.out N2.out SA.out SB.out
      rw [show decide ((rgT).p x y = x) = true from decide_eq_true HG.out] at BT
      have BT := Lib.hid BT
      go_wp2_with fail
      refine BT.out.mono ?_
      rintro e w10 ⟨rfl, f10⟩
      have F10 := Lib.hid (F9.out.trans1 f10)
      clear f10
      go_wp2_with fail
      refine (awake14 _).mono ?_
      rintro e w11 ⟨rfl, f11⟩
      go_wp2_with fail
      go_ret
      exact ⟨rfl, (F3.out.trans1 F10.out).trans1 f11⟩
    · have AT := fun w' (f : Frame [] w3 w') => at_ones semOk_4 (fun _ => 0) pb F l (1000 - l.length) HOK.out.inv root hrl (by omega) w' (S3.out.frame0 f) (fit_any _)
      have WO := fun w' (f : Frame [] w3 w') => without_ones semOk_4 (fun _ => 0) pb F l (1000 - l.length) HOK.out.inv root hrl (by omega) ta tc ts w' (S3.out.frame0 f) (T3.out.frame f) (by omega) (fit_any _)
      have hg := grows_two (two_L (.inr rfl)) HOK.out.inv ts root
      generalize worth (rgL 4) (onesW (rgL 4) []) l root = x at *
      generalize worth (rgL 4) (onesW (rgL 4) ts) l root = y at *
      have AT := Lib.hid AT
      have WO := Lib.hid WO
      have HG := Lib.hid hg
      clear hg
      go_wp2_with fail
      refine (AT.out _ (Frame.refl _ _)).mono ?_
      rintro e w6 ⟨v, rfl, iv, f6⟩
      obtain ⟨rfl, hv⟩ := iv
      have HV := Lib.hid hv
      clear hv
      go_upto_region 9 with fail
      have B1 := Lib.hid (Blk.new w6 39 #[.int .i64 4, .bool false, .slice none 0 0, .int .i64 x, .float .f64 0])
      have f7 := f6.trans1 (Frame.alloc [] w6 (.cells #[.int .i64 4, .bool false, .slice none 0 0, .int .i64 x, .float .f64 0] 39))
      generalize w6.alloc (.cells #[.int .i64 4, .bool false, .slice none 0 0, .int .i64 x, .float .f64 0] 39) = w7 at *
      generalize w6.heap.size = q1 at *
      have F7 := Lib.hid f7
      clear f6 f7
      go_wp2_with fail
      refine (WO.out _ F7.out).mono ?_
      rintro e w8 ⟨v, rfl, iv, f8⟩
      obtain ⟨rfl, hv⟩ := iv
      have HW := Lib.hid hv
      clear hv
      go_upto_region 10 with fail
      have B2 := Lib.hid (Blk.new w8 39 #[.int .i64 4, .bool false, .slice none 0 0, .int .i64 y, .float .f64 0])
      have f9 := f8.trans1 (Frame.alloc [] w8 (.cells #[.int .i64 4, .bool false, .slice none 0 0, .int .i64 y, .float .f64 0] 39))
      have B1 := Lib.hid (B1.out.frame f9 (by simp))
      generalize w8.alloc (.cells #[.int .i64 4, .bool false, .slice none 0 0, .int .i64 y, .float .f64 0] 39) = w9 at *
      generalize w8.heap.size = q2 at *
      have F9 := Lib.hid (F7.out.trans1 f9)
      clear f8 f9
      have x_0 := B1.out.at 0 rfl
      have y_0 := B2.out.at 0 rfl
      have x_1 := B1.out.at 1 rfl
      have y_1 := B2.out.at 1 rfl
      have x_2 := B1.out.at 2 rfl
      have y_2 := B2.out.at 2 rfl
      have x_3 := B1.out.at 3 rfl
      have y_3 := B2.out.at 3 rfl
      have x_4 := B1.out.at 4 rfl
      have y_4 := B2.out.at 4 rfl
      have BT := better_4 x y w9 HV.out HW.out
      rw [show decide ((rgL 4).p x y = x) = true from decide_eq_true HG.out] at BT
      have BT := Lib.hid BT
      go_wp2_with fail
      refine BT.out.mono ?_
      rintro e w10 ⟨rfl, f10⟩
      have F10 := Lib.hid (F9.out.trans1 f10)
      clear f10
      go_wp2_with fail
      refine (awake14 _).mono ?_
      rintro e w11 ⟨rfl, f11⟩
      go_wp2_with fail
      go_ret
      exact ⟨rfl, (F3.out.trans1 F10.out).trans1 f11⟩
    · have AT := fun w' (f : Frame [] w3 w') => at_ones semOk_5 (fun _ => 0) pb F l (1000 - l.length) HOK.out.inv root hrl (by omega) w' (S3.out.frame0 f) (fit_any _)
      have WO := fun w' (f : Frame [] w3 w') => without_ones semOk_5 (fun _ => 0) pb F l (1000 - l.length) HOK.out.inv root hrl (by omega) ta tc ts w' (S3.out.frame0 f) (T3.out.frame f) (by omega) (fit_any _)
      have hg := grows_two two_5 HOK.out.inv ts root
      generalize worth (rgF5) (onesW (rgF5) []) l root = x at *
      generalize worth (rgF5) (onesW (rgF5) ts) l root = y at *
      have AT := Lib.hid AT
      have WO := Lib.hid WO
      have HG := Lib.hid hg
      clear hg
      go_wp2_with fail
      refine (AT.out _ (Frame.refl _ _)).mono ?_
      rintro e w6 ⟨v, rfl, iv, f6⟩
      obtain ⟨rfl, hv⟩ := iv
      have HV := Lib.hid hv
      clear hv
      go_upto_region 9 with fail
      have B1 := Lib.hid (Blk.new w6 39 #[.int .i64 5, .bool false, .slice none 0 0, .int .i64 0, .float .f64 x])
      have f7 := f6.trans1 (Frame.alloc [] w6 (.cells #[.int .i64 5, .bool false, .slice none 0 0, .int .i64 0, .float .f64 x] 39))
      generalize w6.alloc (.cells #[.int .i64 5, .bool false, .slice none 0 0, .int .i64 0, .float .f64 x] 39) = w7 at *
      generalize w6.heap.size = q1 at *
      have F7 := Lib.hid f7
      clear f6 f7
      go_wp2_with fail
      refine (WO.out _ F7.out).mono ?_
      rintro e w8 ⟨v, rfl, iv, f8⟩
      obtain ⟨rfl, hv⟩ := iv
      have HW := Lib.hid hv
      clear hv
      go_upto_region 10 with fail
      have B2 := Lib.hid (Blk.new w8 39 #[.int .i64 5, .bool false, .slice none 0 0, .int .i64 0, .float .f64 y])
      have f9 := f8.trans1 (Frame.alloc [] w8 (.cells #[.int .i64 5, .bool false, .slice none 0 0, .int .i64 0, .float .f64 y] 39))
      have B1 := Lib.hid (B1.out.frame f9 (by simp))
      generalize w8.alloc (.cells #[.int .i64 5, .bool false, .slice none 0 0, .int .i64 0, .float .f64 y] 39) = w9 at *
      generalize w8.heap.size = q2 at *
      have F9 := Lib.hid (F7.out.trans1 f9)
      clear f8 f9
      have x_0 := B1.out.at 0 rfl
      have y_0 := B2.out.at 0 rfl
      have x_1 := B1.out.at 1 rfl
      have y_1 := B2.out.at 1 rfl
      have x_2 := B1.out.at 2 rfl
      have y_2 := B2.out.at 2 rfl
      have x_3 := B1.out.at 3 rfl
      have y_3 := B2.out.at 3 rfl
      have x_4 := B1.out.at 4 rfl
      have y_4 := B2.out.at 4 rfl
      have BT := better_5 x y w9 HV.out HW.out
      rw [show decide ((rgF5).p x y = x) = true from decide_eq_true HG.out] at BT
      have BT := Lib.hid BT
      go_wp2_with fail
      refine BT.out.mono ?_
      rintro e w10 ⟨rfl, f10⟩
      have F10 := Lib.hid (F9.out.trans1 f10)
      clear f10
      go_wp2_with fail
      refine (awake14 _).mono ?_
      rintro e w11 ⟨rfl, f11⟩
      go_wp2_with fail
      go_ret
      exact ⟨rfl, (F3.out.trans1 F10.out).trans1 f11⟩
    · have AT := fun w' (f : Frame [] w3 w') => at_ones semOk_6 (fun _ => 0) pb F l (1000 - l.length) HOK.out.inv root hrl (by omega) w' (S3.out.frame0 f) (fit_any _)
      have WO := fun w' (f : Frame [] w3 w') => without_ones semOk_6 (fun _ => 0) pb F l (1000 - l.length) HOK.out.inv root hrl (by omega) ta tc ts w' (S3.out.frame0 f) (T3.out.frame f) (by omega) (fit_any _)
      have hg := grows_two two_6 HOK.out.inv ts root
      generalize worth (rgF6) (onesW (rgF6) []) l root = x at *
      generalize worth (rgF6) (onesW (rgF6) ts) l root = y at *
      have AT := Lib.hid AT
      have WO := Lib.hid WO
      have HG := Lib.hid hg
      clear hg
      go_wp2_with fail
      refine (AT.out _ (Frame.refl _ _)).mono ?_
      rintro e w6 ⟨v, rfl, iv, f6⟩
      obtain ⟨rfl, hv⟩ := iv
      have HV := Lib.hid hv
      clear hv
      go_upto_region 9 with fail
      have B1 := Lib.hid (Blk.new w6 39 #[.int .i64 6, .bool false, .slice none 0 0, .int .i64 0, .float .f64 x])
      have f7 := f6.trans1 (Frame.alloc [] w6 (.cells #[.int .i64 6, .bool false, .slice none 0 0, .int .i64 0, .float .f64 x] 39))
      generalize w6.alloc (.cells #[.int .i64 6, .bool false, .slice none 0 0, .int .i64 0, .float .f64 x] 39) = w7 at *
      generalize w6.heap.size = q1 at *
      have F7 := Lib.hid f7
      clear f6 f7
      go_wp2_with fail
      refine (WO.out _ F7.out).mono ?_
      rintro e w8 ⟨v, rfl, iv, f8⟩
      obtain ⟨rfl, hv⟩ := iv
      have HW := Lib.hid hv
      clear hv
      go_upto_region 10 with fail
      have B2 := Lib.hid (Blk.new w8 39 #[.int .i64 6, .bool false, .slice none 0 0, .int .i64 0, .float .f64 y])
      have f9 := f8.trans1 (Frame.alloc [] w8 (.cells #[.int .i64 6, .bool false, .slice none 0 0, .int .i64 0, .float .f64 y] 39))
      have B1 := Lib.hid (B1.out.frame f9 (by simp))
      generalize w8.alloc (.cells #[.int .i64 6, .bool false, .slice none 0 0, .int .i64 0, .float .f64 y] 39) = w9 at *
      generalize w8.heap.size = q2 at *
      have F9 := Lib.hid (F7.out.trans1 f9)
      clear f8 f9
      have x_0 := B1.out.at 0 rfl
      have y_0 := B2.out.at 0 rfl
      have x_1 := B1.out.at 1 rfl
      have y_1 := B2.out.at 1 rfl
      have x_2 := B1.out.at 2 rfl
      have y_2 := B2.out.at 2 rfl
      have x_3 := B1.out.at 3 rfl
      have y_3 := B2.out.at 3 rfl
      have x_4 := B1.out.at 4 rfl
      have y_4 := B2.out.at 4 rfl
      have BT := better_6 x y w9 HV.out HW.out
      rw [show decide ((rgF6).p x y = x) = true from decide_eq_true HG.out] at BT
      have BT := Lib.hid BT
      go_wp2_with fail
      refine BT.out.mono ?_
      rintro e w10 ⟨rfl, f10⟩
      have F10 := Lib.hid (F9.out.trans1 f10)
      clear f10
      go_wp2_with fail
      refine (awake14 _).mono ?_
      rintro e w11 ⟨rfl, f11⟩
      go_wp2_with fail
      go_ret
      exact ⟨rfl, (F3.out.trans1 F10.out).trans1 f11⟩
end Go.Proofs.Ytbnhhmejlglbcaa

