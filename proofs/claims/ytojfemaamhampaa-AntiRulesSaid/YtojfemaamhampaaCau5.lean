/- anti.caught. -/
import Derived.Test.YtojfemaamhampaaWith5
namespace Go.Proofs.Ytojfemaamhampaa
open Go.RowKit
set_option linter.unusedSimpArgs false
set_option linter.unusedVariables false

theorem entered_caughtFn : Entered 61 := by intro args w; simp [go_sem]
set_option maxRecDepth 100000 in
theorem caught1_ret (K : Nat) (caps : Array Value) (fb rb : Nat) (x0 : Value) (U : Nat → Prop) (f : List (List Int)) (w : World) (hK : Entered K) (hfb : Blk w fb 40 #[.func (.func K) #[] caps]) (hrb : Blk w rb 30 #[x0]) (hU : ¬ U rb)
    (h : Calls Try.prog K caps w fun e w' => ∃ v, e = .returned v ∧ FVU U w' v f ∧ Frame [] w w') :
    Calls Try.prog 61 #[.pointer (some ⟨fb, 0, none⟩), .pointer (some ⟨rb, 0, none⟩)] w fun e w' => e = .returned (.tuple #[]) ∧ (∃ a n c, Blk w' rb 30 #[.slice a n c] ∧ FVU U w' (.agg #[.slice a n c]) f) ∧ Frame [rb] w w' := by
  have hcall := hK caps
  have f0 := hfb.at 0 rfl
  have H := Lib.hid h
  have HR := Lib.hid hrb
  have HU := Lib.hid hU
  clear h hrb hU hK
  go_enter Try.func61, Try.ntmps61
  go_wp2_with fail
  refine H.out.mono ?_
  rintro e w1 ⟨v, rfl, ⟨a, c, vs, rfl, h2, h3, h4⟩, f1⟩
  have BX := HR.out.frame f1 (by simp)
  have bx := BX.at 0 rfl
  have bf := BX.frozen 0
  have BX := Lib.hid BX
  have hF : Hid (Frame [rb] w1 (w1.setCell ⟨rb, 0, none⟩ (.slice a vs.length c))) := Frame.setCell _ _ _ (by simp)
  have RR : Hid (FVU U w1 (.agg #[.slice a vs.length c]) f) := ⟨a, c, vs, rfl, h2, h3, h4⟩
  have F1 := Lib.hid f1
  clear h2 h3 h4 f1
  go_wp2_with fail
  refine bodyPost_end (results_none rfl _ _ _) rfl ?_
  exact ⟨rfl, ⟨_, _, _, BX.out.set 0 _, RR.out.frame hF.out fun b hb h => HU.out ((show b = rb by simpa using h) ▸ hb)⟩, (F1.out.mono (by simp)).trans1 hF.out⟩
theorem caught1_bail (K : Nat) (caps : Array Value) (fb rb : Nat) (w : World) (n : Int) (hK : Entered K) (hfb : Blk w fb 40 #[.func (.func K) #[] caps])
    (h : Calls Try.prog K caps w fun e w' => ∃ chain, e = .panicked chain ∧ bailing w 10 n chain w' ∧ Frame [] w w') :
    Calls Try.prog 61 #[.pointer (some ⟨fb, 0, none⟩), .pointer (some ⟨rb, 0, none⟩)] w fun e w' => ∃ chain, e = .panicked chain ∧ bailing w 10 n chain w' ∧ Frame [] w w' := by
  have hcall := hK caps
  have f0 := hfb.at 0 rfl
  have H := Lib.hid h
  clear h hK
  go_enter Try.func61, Try.ntmps61
  go_wp2_with fail
  refine H.out.mono ?_
  rintro e w1 ⟨chain, rfl, h1, h2⟩
  exact ⟨rfl, chain, rfl, h1, h2⟩
set_option maxHeartbeats 4000000 in
theorem caught_ret (K : Nat) (caps : Array Value) (f : List (List Int)) (w : World) (hK : Entered K)
    (h : ∀ w1, Frame [] w w1 → w.heap.size + 4 = w1.heap.size → Calls Try.prog K caps w1 fun e w' => ∃ v, e = .returned v ∧ FVU (fun b => w1.heap.size ≤ b) w' v f ∧ Frame [] w1 w') :
    Calls Try.prog 42 #[.func (.func K) #[] caps] w fun e w' => ∃ v, e = .returned (.tuple #[v, .int .i64 0]) ∧ FVU (fun b => w.heap.size ≤ b) w' v f ∧ Frame [] w w' := by
  have hmf := run_makeFunc
  have H := Lib.hid h
  clear h
  go_enter Try.func42, Try.ntmps42
  go_wp2_with fail
  have k1 : Blk ((w.alloc (.cells #[.func (.func K) #[] caps] 40)).alloc (.cells #[.slice none 0 0] 30)) w.heap.size 40 #[.func (.func K) #[] caps] := (Blk.new _ _ _).alloc _
  have k2 : Blk ((w.alloc (.cells #[.func (.func K) #[] caps] 40)).alloc (.cells #[.slice none 0 0] 30)) (w.heap.size + 1) 30 #[.slice none 0 0] := Blk.fresh (by simp)
  have fr0 := (Frame.alloc [] w (.cells #[.func (.func K) #[] caps] 40)).trans1 (Frame.alloc [] _ (.cells #[.slice none 0 0] 30))
  have hz : ((w.alloc (.cells #[.func (.func K) #[] caps] 40)).alloc (.cells #[.slice none 0 0] 30)).heap.size = w.heap.size + 2 := by simp
  generalize ((w.alloc (.cells #[.func (.func K) #[] caps] 40)).alloc (.cells #[.slice none 0 0] 30)) = w0 at *
  refine (catch_ret 61 _ w0 (fun w'' => (∃ a n c, Blk w'' (w.heap.size + 1) 30 #[.slice a n c] ∧ FVU (fun b => w0.heap.size + 2 ≤ b) w'' (.agg #[.slice a n c]) f) ∧ Frame [] w w'') [w.heap.size + 1] entered_caughtFn (by simp; omega) ?_).mono ?_
  · intro w1 fr1 hz1
    refine (caught1_ret K caps _ _ _ (fun b => w1.heap.size ≤ b) f w1 hK (k1.frame fr1 (by simp)) (k2.frame fr1 (by simp)) (by omega) (H.out w1 (fr0.trans1 fr1) (by omega))).mono ?_
    rintro e w' ⟨rfl, ⟨a, n, c, hx, hv⟩, f2⟩
    refine ⟨rfl, f2, fun w'' f4 => ⟨⟨a, n, c, hx.frame f4 (by simp; omega), ?_⟩, ?_⟩⟩
    · exact (hv.frame f4 fun b hb h => by simp at h; omega).mono fun b hb => by omega
    · exact ((fr0.trans1 fr1).trans f2 (by simp)).trans f4 (by simp; omega)
  · rintro e w1 ⟨rfl, ⟨a, n, c, hx, hv⟩, hfr⟩
    have c1 := hx.at 0 rfl
    have c2 := hx.frozen 0
    have HX := Lib.hid hx
    have HV := Lib.hid hv
    have HFR := Lib.hid hfr
    have hld := fam_load w1 _ _ hx
    clear hx hv hfr
    go_wp2_with fail
    refine bodyPost_ret (results_fam rfl _ _ _ _ rfl (HX.out.set 0 _)) rfl ?_
    have hF : Frame [w.heap.size + 1] w1 (w1.setCell ⟨w.heap.size + 1, 0, none⟩ (.slice a n c)) := Frame.setCell _ _ _ (by simp)
    exact ⟨_, rfl, (HV.out.frame hF fun b hb h => by simp at h; omega).mono fun b hb => by omega, HFR.out.trans hF (by simp)⟩
set_option maxHeartbeats 4000000 in
theorem caught_bail (K : Nat) (caps : Array Value) (w : World) (n : Int) (hK : Entered K)
    (h : ∀ w1, Frame [] w w1 → w.heap.size + 4 = w1.heap.size → Calls Try.prog K caps w1 fun e w' => ∃ chain, e = .panicked chain ∧ bailing w1 10 n chain w' ∧ Frame [] w1 w') :
    Calls Try.prog 42 #[.func (.func K) #[] caps] w fun e w' => e = .returned (.tuple #[.agg #[.slice none 0 0], .int .i64 10]) ∧ Frame [] w w' := by
  have hmf := run_makeFunc
  have H := Lib.hid h
  clear h
  go_enter Try.func42, Try.ntmps42
  go_wp2_with fail
  have k1 : Blk ((w.alloc (.cells #[.func (.func K) #[] caps] 40)).alloc (.cells #[.slice none 0 0] 30)) w.heap.size 40 #[.func (.func K) #[] caps] := (Blk.new _ _ _).alloc _
  have k2 : Blk ((w.alloc (.cells #[.func (.func K) #[] caps] 40)).alloc (.cells #[.slice none 0 0] 30)) (w.heap.size + 1) 30 #[.slice none 0 0] := Blk.fresh (by simp)
  have fr0 := (Frame.alloc [] w (.cells #[.func (.func K) #[] caps] 40)).trans1 (Frame.alloc [] _ (.cells #[.slice none 0 0] 30))
  have hz : ((w.alloc (.cells #[.func (.func K) #[] caps] 40)).alloc (.cells #[.slice none 0 0] 30)).heap.size = w.heap.size + 2 := by simp
  generalize ((w.alloc (.cells #[.func (.func K) #[] caps] 40)).alloc (.cells #[.slice none 0 0] 30)) = w0 at *
  refine (catch_bail 61 _ w0 (fun w'' => Blk w'' (w.heap.size + 1) 30 #[.slice none 0 0] ∧ Frame [] w w'') [] 10 n entered_caughtFn (by simp) ?_).mono ?_
  · intro w1 fr1 hz1
    refine (caught1_bail K caps _ _ w1 n hK (k1.frame fr1 (by simp)) (H.out w1 (fr0.trans1 fr1) (by omega))).mono ?_
    rintro e w' ⟨chain, rfl, hb, f2⟩
    exact ⟨chain, rfl, hb, f2, fun w'' f4 => ⟨((k2.frame fr1 (by simp)).frame f2 (by simp)).frame f4 (by simp; omega), ((fr0.trans1 fr1).trans1 f2).trans f4 (by simp; omega)⟩⟩
  · rintro e w1 ⟨rfl, hx, hfr⟩
    have c1 := hx.at 0 rfl
    have c2 := hx.frozen 0
    have HX := Lib.hid hx
    have HFR := Lib.hid hfr
    have hld := fam_load w1 _ _ hx
    clear hx hfr
    go_wp2_with fail
    refine bodyPost_ret (results_fam rfl _ _ _ _ rfl (HX.out.set 0 _)) rfl ?_
    have hF : Frame [w.heap.size + 1] w1 (w1.setCell ⟨w.heap.size + 1, 0, none⟩ (.slice none 0 0)) := Frame.setCell _ _ _ (by simp)
    exact ⟨rfl, HFR.out.trans hF (by simp)⟩
end Go.Proofs.Ytojfemaamhampaa
