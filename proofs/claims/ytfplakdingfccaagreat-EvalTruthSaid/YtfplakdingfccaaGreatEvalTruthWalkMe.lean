/- The law EvalTruth, walked. -/
import Derived.Test.YtfplakdingfccaaGreatMe44
import Derived.Test.YtfplakdingfccaaGreatMe46
namespace Go.Proofs.YtfplakdingfccaaGreat
open Go.RowKit
set_option linter.unusedSimpArgs false
set_option linter.unusedVariables false

/-- A token's weight: 1 where it is there. -/
def wgB (ts : List Int) (t : Int) : Wg := ⟨t, 2, false, none, 0, 0, if t ∈ ts then 1 else 0, 0⟩
def wlB (ts : List Int) (k : Nat) : List Wg := (List.range k).map fun (j : Nat) => wgB ts ((j : Int) + 1)
def decB (x : Wg) : Bool := x.lv == 1
theorem wlB_len (ts : List Int) (k : Nat) : (wlB ts k).length = k := by simp [wlB]
theorem wlB_succ (ts : List Int) (k : Nat) : wlB ts (k + 1) = wlB ts k ++ [wgB ts ((k : Int) + 1)] := by simp [wlB, List.range_succ]
theorem weigh_wlB (ts : List Int) (t : Int) (h : 1 ≤ t ∧ t ≤ 6) : weighV rgB decB 2 (wlB ts 6) t = decide (t ∈ ts) := by
  have e : wlB ts 6 = [wgB ts 1, wgB ts 2, wgB ts 3, wgB ts 4, wgB ts 5, wgB ts 6] := rfl
  rw [e]
  obtain rfl | rfl | rfl | rfl | rfl | rfl : t = 1 ∨ t = 2 ∨ t = 3 ∨ t = 4 ∨ t = 5 ∨ t = 6 := by omega
  all_goals
    simp [weighV, hit, wgB, rgB, decB, List.find?]
    try (split <;> simp_all)
theorem encW_len (x : Wg) : (Wg.cs x).length = 6 := rfl
theorem encW_one (x : Wg) : ∀ u ∈ Wg.cs x, u.oneCell' = true := by simp [Wg.cs, Value.oneCell']
theorem infoW : (Tryz.prog.info? 39).map (fun i => (i.zero, i.size, i.bytes)) = some (some (.agg #[.int .i64 0, .int .i64 0, .bool false, .slice none 0 0, .int .i64 0, .float .f64 0]), 6, 64) := by kernel_rfl
theorem sl_wRd {w : World} {a : Option Addr} {n c : Nat} {ws : List Wg} {G : List Nat} (h : Sl w 39 6 Wg.cs (.slice a n c) ws G) : WRd (fun b => b < w.heap.size) w a ws := fun k x hx => by
  obtain ⟨b, cap, hv, -, hb, hc⟩ := h.cell encW_len hx
  injection hv with e1 _ _
  exact ⟨b, 0, e1, hb, fun j u hu => by rw [Nat.zero_add]; exact hc j u hu⟩
theorem wRd_mono {U U' : Nat → Prop} {w : World} {a : Option Addr} {ws : List Wg} (h : WRd U w a ws) (hU : ∀ b, U b → U' b) : WRd U' w a ws := fun k x hx => by
  obtain ⟨b, off, h1, h2, h3⟩ := h k x hx
  exact ⟨b, off, h1, hU b h2, h3⟩
theorem wRd_frame {w w' : World} {a : Option Addr} {ws : List Wg} (h : WRd (fun b => b < w.heap.size) w a ws) (f : Frame [] w w') : WRd (fun b => b < w'.heap.size) w' a ws := fun k x hx => by
  obtain ⟨b, off, h1, h2, h3⟩ := h k x hx
  exact ⟨b, off, h1, Nat.lt_of_lt_of_le h2 f.size, fun j u hu => f.cell (h3 j u hu) (by simp)⟩
/-- What a gate is worth by those weights. -/
theorem evAt_wlB (pb : Nat) (F : List Nat) (l : List Gt) (left : Int) (n : Nat) (hok : MOk l n) (root : Nat) (hr : root < l.length) (hlen : l.length ≤ 100000) (ts : List Int) (a : Option Addr) (c : Nat) (w : World) (h : St w pb F l left)
    (hw : WRd (fun b => b < w.heap.size) w a (wlB ts 6)) :
    Calls Tryz.prog 15 #[.pointer (some ⟨pb, 0, none⟩), .int .i64 root, .int .i64 2, .slice a 6 c] w fun e w' => VEnd IsB (truth l root ts) w e w' := by
  have hIs : ∀ x ∈ wlB ts 6, IsB w x.val (decB x) := fun x hx => by
    obtain ⟨j, -, rfl⟩ := List.mem_map.mp hx
    show _ = _
    by_cases ht : ((j : Int) + 1) ∈ ts <;> simp [wgB, Wg.val, decB, vB, ht]
  have hwt : worth rgB (killed rgB (fun t => weighV rgB decB 2 (wlB ts 6) t) fun t => decide (t ∈ ([] : List Int))) l root = truth l root ts := by
    refine worth_congr hok.inv (root := root) (fun k g hk hm hg h3 => ?_) root (Nat.le_refl _) (reachM_root l root)
    have := hok.tk g (List.mem_of_getElem? hg) h3
    simp [killed, weigh_wlB ts g.a this]
  have hWo := fun w' (f : Frame [] w w') => evWithout_any semOk_bool pb F l left hok.inv root hr hlen a 6 c none 0 0 (fun t => weighV rgB decB 2 (wlB ts 6) t) (fun t => decide (t ∈ ([] : List Int))) w' (h.frame0 f)
    (fun w'' f' => check_ok semOk_bool a c (wlB ts 6) w'' (by simp [wlB]) (wRd_mono (wRd_frame hw (f.trans1 f')) (fun _ _ => trivial)) (fun x hx _ w3 _ => by
      have := hIs x hx
      unfold IsB at this
      rw [this]
      exact semMay_bool _ (by cases decB x <;> simp) w3))
    (fun w'' t f' => weigh_any semOk_bool decB a c (wlB ts 6) t w'' (by simp [wlB]) (wRd_frame hw (f.trans1 f')) (fun x hx _ => ⟨hIs x hx, trivial⟩))
    (fun w'' x f' => conI none 0 [] x w'' (.inl rfl) (by simp) (decide (x ∈ ([] : List Int))) (by simp))
    (fun k _ g _ => ⟨fun _ => trivial, fun _ => trivial, fun _ => trivial⟩)
  rw [hwt] at hWo
  exact evAt_nil semOk_bool pb root (truth l root ts) a 6 c w hWo

set_option maxRecDepth 100000 in
theorem evalTruth_out (a : Option Addr) (n cap : Nat) (r : Int) (ta : Option Addr) (tn tc : Nat) (ua : Option Addr) (un uc : Nat) (w : World) (h : 60 < n ∨ 50 < tn ∨ 50 < un) (hn : n ≤ 9223372036854775807) (htn : tn ≤ 9223372036854775807) (hun : un ≤ 9223372036854775807) :
    Calls Tryz.prog 5 #[.slice a n cap, .int .i64 r, .slice ta tn tc, .slice ua un uc] w fun e w' => e = .returned (.bool true) ∧ Frame [] w w' := by
  by_cases h1 : 60 < n
  · have d1 : decide ((60 : Int) < n) = true := decide_eq_true (by omega)
    clear h
    go_enter Tryz.func5, Tryz.ntmps5
    go_wp2_with fail
    refine (awake14 _).mono ?_
    rintro e w1 ⟨rfl, f1⟩
    go_wp2_with fail
    go_ret
    exact ⟨rfl, f1⟩
  · by_cases h2 : 50 < tn
    · have d1 : decide ((60 : Int) < n) = false := decide_eq_false (by omega)
      have d2 : decide ((50 : Int) < tn) = true := decide_eq_true (by omega)
      clear h
      go_enter Tryz.func5, Tryz.ntmps5
      go_wp2_with fail
      refine (awake14 _).mono ?_
      rintro e w1 ⟨rfl, f1⟩
      go_wp2_with fail
      go_ret
      exact ⟨rfl, f1⟩
    · have d1 : decide ((60 : Int) < n) = false := decide_eq_false (by omega)
      have d2 : decide ((50 : Int) < tn) = false := decide_eq_false (by omega)
      have d3 : decide ((50 : Int) < un) = true := decide_eq_true (by omega)
      clear h
      go_enter Tryz.func5, Tryz.ntmps5
      go_wp2_with fail
      refine (awake14 _).mono ?_
      rintro e w1 ⟨rfl, f1⟩
      go_wp2_with fail
      go_ret
      exact ⟨rfl, f1⟩
/-- A number, gone round. -/
theorem round_nat14 (r : Int) (n : Nat) (hn : 1 ≤ n) : ∃ root : Nat, r % (n : Int) = root ∧ root < n := by
  have h1 := Int.emod_nonneg r (show (n : Int) ≠ 0 by omega)
  have h2 := Int.emod_lt_of_pos r (show (0 : Int) < n by omega)
  exact ⟨(r % n).toNat, by omega, by omega⟩
theorem rfT14 {w : World} {a : Option Addr} {xs : List Int} (h : RdI w a xs) : RF (fun _ => True) w 1 encI a xs := fun k x hx => by
  obtain ⟨hk, rfl⟩ := List.getElem?_eq_some_iff.1 hx
  obtain ⟨b, off, h1, h2⟩ := h.at hk
  refine ⟨b, off, h1, trivial, fun j u hu => ?_⟩
  match j, hu with
  | 0, hu =>
    have : u = .int .i64 xs[k] := by simpa [encI] using hu.symm
    rw [this, Nat.mul_one, Nat.add_zero]
    exact h2
  | j + 1, hu => simp [encI] at hu

set_option maxHeartbeats 4000000 in
set_option maxRecDepth 100000 in
theorem evalTruth_in (a : Option Addr) (cap : Nat) (xs : List St3) (r : Int) (ta : Option Addr) (tc : Nat) (ts : List Int) (ua : Option Addr) (uc : Nat) (us : List Int) (w : World) (hx : RdS w 3 St3.enc St3.ok a xs) (hl : xs.length ≤ 60) (ht : RdI w ta ts) (htl : ts.length ≤ 50) (hu : RdI w ua us) (hul : us.length ≤ 50) (hr : okI w r) :
    Calls Tryz.prog 5 #[.slice a xs.length cap, .int .i64 r, .slice ta ts.length tc, .slice ua us.length uc] w fun e w' => e = .returned (.bool true) ∧ Frame [] w w' := by
  have hst := fun (w : World) (a : Addr) (q : Nat) (m : Mode) => run_store Tryz.prog w a (.float .f64 q) m rfl
  have d1 : decide ((60 : Int) < xs.length) = false := decide_eq_false (by omega)
  have d2 : decide ((50 : Int) < ts.length) = false := decide_eq_false (by omega)
  have d3 : decide ((50 : Int) < us.length) = false := decide_eq_false (by omega)
  have MA := Lib.hid (made14_any a cap xs w hx (by omega))
  have hok := gatesM_ok xs
  have HT := Lib.hid (And.intro ht hu)
  clear hx ht hu
  generalize gatesM xs = l at *
  have hl1 := hok.len
  have hl2 := hok.two
  have HOK := Lib.hid hok
  clear hok
  go_enter Tryz.func5, Tryz.ntmps5
  go_wp2_with fail
  refine MA.out.mono ?_
  rintro e w2 ⟨pb, rb, rfl, F, F2, s2, r2, f2, n2, -⟩
  obtain ⟨ra, rc, rG, rb1, -, -, -⟩ := r2
  have z0 := rb1.at 0 rfl
  obtain ⟨root, hroot, hrl⟩ := round_nat14 r l.length (by omega)
  have RA := Lib.hid (fun w => round_any r l.length w (by omega) (by omega) hr.1 hr.2)
  rw [hroot] at RA
  have A := Lib.hid (And.intro s2 f2)
  clear s2 f2 n2 rb1 hroot hr MA
  go_wp2_with fail
  refine (RA.out _).mono ?_
  rintro e wq ⟨rfl, rfl⟩
  clear z0 RA
  go_wp2_with fail
  go_loopw [12, 13, 14] (fun u i _ wr => ∃ (k : Nat) (vA : Option Addr) (vc : Nat), k ≤ 6 ∧ i = .int .i64 ((k : Int) + 1) ∧ u = .slice vA k vc ∧ Hid (Frame [] wq wr ∧ ∃ G, Sl wr 39 6 Wg.cs (.slice vA k vc) (wlB ts k) G ∧ ∀ x ∈ G, wq.heap.size ≤ x)) (fun _ i _ _ => (7 - intOf i).toNat)
  case atStart => exact ⟨0, none, 0, by omega, rfl, rfl, Lib.hid ⟨Frame.refl _ _, [], Sl.nil _ _ _ _, by simp⟩⟩
  case round =>
    rename World => wr
    obtain ⟨k, vA, vc, hk, rfl, rfl, hR⟩ := hrel
    by_cases hlt : k < 6
    · obtain ⟨fr, G, sl, hG⟩ := hR.out
      have SL := Lib.hid (And.intro sl (And.intro fr hG))
      have hnx := wlB_succ ts k
      have HNX := Lib.hid hnx
      have hlen := wlB_len ts k
      have HLEN := Lib.hid hlen
      clear fr sl hG hnx hlen hR
      by_cases hin : ((k : Int) + 1) ∈ ts
      · have HIN : Hid (∀ x ∈ [(k : Int) + 1], x ∈ ts) := by intro x hx; simp at hx; subst hx; exact hin
        have hwg : wgB ts ((k : Int) + 1) = ⟨(k : Int) + 1, 2, false, none, 0, 0, 1, 0⟩ := by simp [wgB, hin]
        have HWG := Lib.hid hwg
        clear hwg
        clear hin
        have SB := Lib.hid (Ans.yes (subset_any (some ⟨wr.heap.size + 1, 0, none⟩) ta 1 tc [(k : Int) + 1] ts ((wr.alloc (.cells #[.int .i64 2, .bool false, .slice none 0 0, .int .i64 0, .float .f64 0] 37)).alloc (.cells #[.int .i64 ((k : Int) + 1)] 3)) (by have := RdI.one (wr.alloc (.cells #[.int .i64 2, .bool false, .slice none 0 0, .int .i64 0, .float .f64 0] 37)) ((k : Int) + 1) 3; simpa using this) (HT.out.1.frame ((A.out.2.trans1 SL.out.2.1).trans1 (by (repeat first | assumption | exact Frame.refl _ _ | refine Frame.trans1 ?_ (Frame.alloc _ _ _) | refine Frame.trans1 ?_ (Frame.drew _ _) | refine Frame.trans1 ?_ (Frame.drewN _ _ _))))) (by simp) (by omega)) HIN.out)
        go_wp2_with fail
        refine SB.out.mono ?_
        rintro e w6 ⟨rfl, f6⟩
        have BV6 := ((Blk.new wr 37 #[.int .i64 2, .bool false, .slice none 0 0, .int .i64 0, .float .f64 0]).alloc (.cells #[.int .i64 ((k : Int) + 1)] 3)).frame f6 (by simp)
        have f16 : Frame [] wr w6 := (show Frame [] wr _ from by (repeat first | assumption | exact Frame.refl _ _ | refine Frame.trans1 ?_ (Frame.alloc _ _ _) | refine Frame.trans1 ?_ (Frame.drew _ _) | refine Frame.trans1 ?_ (Frame.drewN _ _ _))).trans1 f6
        have y3 := BV6.at 3 rfl
        have z0 := BV6.frozen
        have hBV7 := BV6.set 3 (.int .i64 1)
        have hF7 : Frame [wr.heap.size] w6 (w6.setCell ⟨wr.heap.size, 3, none⟩ (.int .i64 1)) := Frame.setCell _ _ _ (by simp)
        clear f6 BV6
        go_upto_region 14 with fail
        clear y3 z0 SB
        have hF8 : Frame [] wr (w6.setCell ⟨wr.heap.size, 3, none⟩ (.int .i64 1)) := f16.trans hF7 (fun x hx => by simp at hx; exact .inr (by omega))
        generalize w6.setCell ⟨wr.heap.size, 3, none⟩ (.int .i64 1) = w7 at *
        have BV7 := Lib.hid hBV7
        have F7 := Lib.hid hF8
        clear hBV7 hF7 hF8 f16
        have x0 := BV7.out.at 0 rfl
        have x1 := BV7.out.at 1 rfl
        have x2 := BV7.out.at 2 rfl
        have x3 := BV7.out.at 3 rfl
        have x4 := BV7.out.at 4 rfl
        go_wp2_with (at_builtin; refine wpList_append_sl _ rfl (.tmp 58) (.tmp 62) 23 rfl 39 6 64 _ Wg.cs Tryz.underlying23 infoW rfl (by omega) (.slice vA k vc) (wlB ts k) G rfl (SL.out.1.frame0 (F7.out.trans1 (by (repeat first | assumption | exact Frame.refl _ _ | refine Frame.trans1 ?_ (Frame.alloc _ _ _) | refine Frame.trans1 ?_ (Frame.drew _ _) | refine Frame.trans1 ?_ (Frame.drewN _ _ _))))) _ 1 1 [wgB ts ((k : Int) + 1)] _ rfl (by rw [HWG.out]; exact Blk.new _ _ _) rfl (by rw [HWG.out]; rfl) encW_len encW_one (by omega) (by rw [HLEN.out]; omega) (by omega) ?_; intro b' cap' w8 sl8 f8 hb8; have f8w : Frame G wr w8 := (show Frame G wr _ from ((F7.out.mono (by simp)).trans0 (by (repeat first | assumption | exact Frame.refl _ _ | refine Frame.trans1 ?_ (Frame.alloc _ _ _) | refine Frame.trans1 ?_ (Frame.drew _ _) | refine Frame.trans1 ?_ (Frame.drewN _ _ _))))).trans1 f8; have R8 := Lib.hid (And.intro sl8 (And.intro f8w hb8)); clear sl8 f8w f8 hb8)
        go_roundw
        case rel =>
          refine ⟨k + 1, some ⟨b', 0, none⟩, cap', by omega, by first | rfl | go_num, by first | rfl | (simp [HLEN.out]; done) | skip, Lib.hid ⟨SL.out.2.1.trans R8.out.2.1 (fun x hx => .inr (SL.out.2.2 x hx)), [b'], ?_, ?_⟩⟩
          · rw [HNX.out]
            have := R8.out.1
            rw [HLEN.out] at this
            exact this
          · intro x hx
            simp at hx
            subst hx
            have hsz := SL.out.2.1.size
            have hs7 := F7.out.size
            rcases R8.out.2.2 with hb | hb
            · exact SL.out.2.2 _ hb
            · rw [hb, show ∀ (a : World) o, (a.alloc o).heap.size = a.heap.size + 1 from fun _ _ => Array.size_push ..]; omega
        case measure => first | (simp [intOf]; done) | (simp [intOf]; omega)
      · have HIN : Hid (¬ ∀ x ∈ [(k : Int) + 1], x ∈ ts) := by intro h; exact hin (h _ (by simp))
        have hwg : wgB ts ((k : Int) + 1) = ⟨(k : Int) + 1, 2, false, none, 0, 0, 0, 0⟩ := by simp [wgB, hin]
        have HWG := Lib.hid hwg
        clear hwg
        clear hin
        have SB := Lib.hid (Ans.no (subset_any (some ⟨wr.heap.size + 1, 0, none⟩) ta 1 tc [(k : Int) + 1] ts ((wr.alloc (.cells #[.int .i64 2, .bool false, .slice none 0 0, .int .i64 0, .float .f64 0] 37)).alloc (.cells #[.int .i64 ((k : Int) + 1)] 3)) (by have := RdI.one (wr.alloc (.cells #[.int .i64 2, .bool false, .slice none 0 0, .int .i64 0, .float .f64 0] 37)) ((k : Int) + 1) 3; simpa using this) (HT.out.1.frame ((A.out.2.trans1 SL.out.2.1).trans1 (by (repeat first | assumption | exact Frame.refl _ _ | refine Frame.trans1 ?_ (Frame.alloc _ _ _) | refine Frame.trans1 ?_ (Frame.drew _ _) | refine Frame.trans1 ?_ (Frame.drewN _ _ _))))) (by simp) (by omega)) HIN.out)
        go_wp2_with fail
        refine SB.out.mono ?_
        rintro e w7 ⟨rfl, f6⟩
        have BV7 := Lib.hid (((Blk.new wr 37 #[.int .i64 2, .bool false, .slice none 0 0, .int .i64 0, .float .f64 0]).alloc (.cells #[.int .i64 ((k : Int) + 1)] 3)).frame f6 (by simp))
        have F7 := Lib.hid ((show Frame [] wr _ from by (repeat first | assumption | exact Frame.refl _ _ | refine Frame.trans1 ?_ (Frame.alloc _ _ _) | refine Frame.trans1 ?_ (Frame.drew _ _) | refine Frame.trans1 ?_ (Frame.drewN _ _ _))).trans1 f6)
        clear f6 SB
        have x0 := BV7.out.at 0 rfl
        have x1 := BV7.out.at 1 rfl
        have x2 := BV7.out.at 2 rfl
        have x3 := BV7.out.at 3 rfl
        have x4 := BV7.out.at 4 rfl
        go_wp2_with (at_builtin; refine wpList_append_sl _ rfl (.tmp 58) (.tmp 62) 23 rfl 39 6 64 _ Wg.cs Tryz.underlying23 infoW rfl (by omega) (.slice vA k vc) (wlB ts k) G rfl (SL.out.1.frame0 (F7.out.trans1 (by (repeat first | assumption | exact Frame.refl _ _ | refine Frame.trans1 ?_ (Frame.alloc _ _ _) | refine Frame.trans1 ?_ (Frame.drew _ _) | refine Frame.trans1 ?_ (Frame.drewN _ _ _))))) _ 1 1 [wgB ts ((k : Int) + 1)] _ rfl (by rw [HWG.out]; exact Blk.new _ _ _) rfl (by rw [HWG.out]; rfl) encW_len encW_one (by omega) (by rw [HLEN.out]; omega) (by omega) ?_; intro b' cap' w8 sl8 f8 hb8; have f8w : Frame G wr w8 := (show Frame G wr _ from ((F7.out.mono (by simp)).trans0 (by (repeat first | assumption | exact Frame.refl _ _ | refine Frame.trans1 ?_ (Frame.alloc _ _ _) | refine Frame.trans1 ?_ (Frame.drew _ _) | refine Frame.trans1 ?_ (Frame.drewN _ _ _))))).trans1 f8; have R8 := Lib.hid (And.intro sl8 (And.intro f8w hb8)); clear sl8 f8w f8 hb8)
        go_roundw
        case rel =>
          refine ⟨k + 1, some ⟨b', 0, none⟩, cap', by omega, by first | rfl | go_num, by first | rfl | (simp [HLEN.out]; done) | skip, Lib.hid ⟨SL.out.2.1.trans R8.out.2.1 (fun x hx => .inr (SL.out.2.2 x hx)), [b'], ?_, ?_⟩⟩
          · rw [HNX.out]
            have := R8.out.1
            rw [HLEN.out] at this
            exact this
          · intro x hx
            simp at hx
            subst hx
            have hsz := SL.out.2.1.size
            have hs7 := F7.out.size
            rcases R8.out.2.2 with hb | hb
            · exact SL.out.2.2 _ hb
            · rw [hb, show ∀ (a : World) o, (a.alloc o).heap.size = a.heap.size + 1 from fun _ _ => Array.size_push ..]; omega
        case measure => first | (simp [intOf]; done) | (simp [intOf]; omega)
    · obtain rfl : k = 6 := by omega
      obtain ⟨fr, G, sl, hG⟩ := hR.out
      have AT := Lib.hid (evAt_wlB pb F l (1000 - l.length) xs.length HOK.out root hrl (by omega) ts vA vc wr (A.out.1.frame0 fr) (sl_wRd sl))
      have TR := Lib.hid (fun w' (f : Frame [] wr w') a c xs (hx : RdI w' a xs) (hl : xs.length ≤ 1000000) => truth_any pb F l (1000 - l.length) HOK.out.inv root hrl (by omega) a c xs w' (A.out.1.frame0 (fr.trans1 f)) hx hl)
      have RT := Lib.hid (fun w' (f : Frame [] wr w') => And.intro (HT.out.1.frame ((A.out.2.trans1 fr).trans1 f)) (HT.out.2.frame ((A.out.2.trans1 fr).trans1 f)))
      have FR := Lib.hid (A.out.2.trans1 fr)
      have MO : Hid (truth l root ts = true → truth l root ([] ++ ts ++ us) = true) := fun h => by
        refine worthB_mono HOK.out.inv (fun t hh => ?_) root h
        simp at hh ⊢
        exact .inl hh
      clear fr sl hG hR
      generalize hb : truth l root ts = b at *
      have HB := Lib.hid hb
      clear hb
      go_wp2_with fail
      refine AT.out.mono ?_
      rintro e w3 ⟨u, rfl, hu, f3⟩
      unfold IsB at hu
      subst hu
      clear AT
      unfold vB
      generalize hlv : (if b = true then (1 : Int) else 0) = lv at *
      have HLV := Lib.hid hlv
      clear hlv
      have B3 := Blk.new w3 37 #[.int .i64 2, .bool false, .slice none 0 0, .int .i64 lv, .float .f64 0]
      have f34 : Frame [] wr (w3.alloc (.cells #[.int .i64 2, .bool false, .slice none 0 0, .int .i64 lv, .float .f64 0] 37)) := f3.trans1 (Frame.alloc _ _ _)
      go_upto_region 16 with fail
      generalize w3.alloc (.cells #[.int .i64 2, .bool false, .slice none 0 0, .int .i64 lv, .float .f64 0] 37) = w4 at *
      generalize w3.heap.size = q4 at *
      have B4 := Lib.hid B3
      have F4 := Lib.hid f34
      clear B3 f34 f3
      have sl0 : Sl (w4.alloc (.cells #[] 3)) 3 1 encI (.slice (some ⟨w4.heap.size, 0, none⟩) 0 0) [] [w4.heap.size] := Sl.of_blk (xs := ([] : List Int)) (cap := 0) (Blk.new w4 3 #[]) (Nat.le_refl _) (by unfold maxLen; omega) rfl rfl
      have SL0 := Lib.hid sl0
      clear sl0
      go_wp2_with (first
        | (at_builtin; refine wpList_append_rf (by rfl) (.tmp 71) (.tmp 72) 50 (by rfl) 3 1 8 _ encI Tryz.underlying50 infoInt rfl (by omega) (.slice (some ⟨w4.heap.size, 0, none⟩) 0 0) [] 0 rfl [w4.heap.size] (by rfl) SL0.out (fun _ => True) _ ts.length _ ts (by rfl) (rfT14 (RT.out _ (F4.out.trans1 (by (repeat first | assumption | exact Frame.refl _ _ | refine Frame.trans1 ?_ (Frame.alloc _ _ _) | refine Frame.trans1 ?_ (Frame.drew _ _) | refine Frame.trans1 ?_ (Frame.drewN _ _ _))))).1) rfl encI_len encI_one ts.length (by omega) (by omega) (by omega) ?_; intro a5 cap5 w5 G5 sl5 f5 hG5; have hF5 : Frame [] w4 w5 := (Frame.alloc [] w4 (.cells #[] 3)).trans f5 (fun x hx => .inr (by simp at hx; omega)); have E5 := Lib.hid (And.intro sl5 (And.intro hF5 hG5)); clear sl5 f5 hG5 hF5)
        | (at_builtin; refine wpList_append_rf (by rfl) (.tmp 73) (.tmp 74) 50 (by rfl) 3 1 8 _ encI Tryz.underlying50 infoInt rfl (by omega) (.slice a5 ts.length cap5) ([] ++ ts) ts.length rfl G5 (by rfl) E5.out.1 (fun _ => True) _ us.length _ us (by rfl) (rfT14 (RT.out _ (F4.out.trans1 E5.out.2.1)).2) rfl encI_len encI_one (ts.length + us.length) (by omega) (by omega) (by omega) ?_; intro a6 cap6 w6 G6 sl6 f6 hG6; have hF6 : Frame [] w4 w6 := E5.out.2.1.trans f6 (fun x hx => by rcases E5.out.2.2 x hx with h | h; exact .inr (by simp at h; omega); exact .inr (Nat.le_trans (show Frame [] w4 _ from by (repeat first | assumption | exact Frame.refl _ _ | refine Frame.trans1 ?_ (Frame.alloc _ _ _) | refine Frame.trans1 ?_ (Frame.drew _ _) | refine Frame.trans1 ?_ (Frame.drewN _ _ _))).size h)); have E6 := Lib.hid (And.intro (sl_rdI sl6) hF6); clear sl6 f6 hG6 hF6))
      have T6 := Lib.hid (TR.out w6 (F4.out.trans1 E6.out.2) ta tc ts (RT.out w6 (F4.out.trans1 E6.out.2)).1 (by omega))
      rw [HB.out] at T6
      refine T6.out.mono ?_
      rintro e w7 ⟨rfl, f7⟩
      have y3 := ((B4.out.frame E6.out.2 (by simp)).frame f7 (by simp)).at 3 rfl
      have F7 := Lib.hid ((F4.out.trans1 E6.out.2).trans1 f7)
      have T7 := Lib.hid (TR.out w7 F7.out a6 cap6 ([] ++ ts ++ us) (E6.out.1.frame f7) (by simp; omega))
      rw [show (([] : List Int) ++ ts ++ us).length = ts.length + us.length from by simp] at T7
      clear f7 T6
      cases b with
      | false =>
        obtain rfl : 0 = lv := HLV.out
        clear MO T7
        go_wp2_with fail
        refine (awake14 _).mono ?_
        rintro e w9 ⟨rfl, f9⟩
        go_wp2_with fail
        go_ret
        exact ⟨rfl, (FR.out.trans1 F7.out).trans1 f9⟩
      | true =>
        rw [MO.out rfl] at T7
        obtain rfl : 1 = lv := HLV.out
        clear MO
        go_wp2_with fail
        refine T7.out.mono ?_
        rintro e w8 ⟨rfl, f8⟩
        go_wp2_with fail
        refine (awake14 _).mono ?_
        rintro e w9 ⟨rfl, f9⟩
        go_wp2_with fail
        go_ret
        exact ⟨rfl, ((FR.out.trans1 F7.out).trans1 f8).trans1 f9⟩
end Go.Proofs.YtfplakdingfccaaGreat

