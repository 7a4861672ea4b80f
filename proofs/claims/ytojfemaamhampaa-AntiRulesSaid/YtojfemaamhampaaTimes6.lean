/- anti.Times. -/
import Derived.Test.YtojfemaamhampaaTimes5
import Derived.Test.YtojfemaamhampaaPlus6
namespace Go.Proofs.Ytojfemaamhampaa
open Go.RowKit
set_option linter.unusedSimpArgs false
set_option linter.unusedVariables false

set_option maxHeartbeats 4000000 in
set_option maxRecDepth 100000 in
theorem atimes_ok (v1 v2 : Value) (f g : List (List Int)) (budget : Int) (w : World) (hf : FV w v1 f) (hg : FV w v2 g) (uf : Ups f) (ug : Ups g) (lf : f.length ≤ 100000 ∧ g.length ≤ 100000 ∧ f.length * g.length ≤ 20000) (lg : (∀ s ∈ f, s.length ≤ 500) ∧ ∀ s ∈ g, s.length ≤ 500) (h1 : ((timesL f g).length : Int) ≤ budget) (h2 : (timesL f g).length ≤ 5000) :
    Calls Try.prog 21 #[v1, v2, .int .i64 budget] w fun e w' => ∃ v, e = .returned (.tuple #[v, .int .i64 0]) ∧ FVU (fun b => w.heap.size ≤ b) w' v (timesL f g) ∧ Frame [] w w' := by
  obtain ⟨a0, n0, c0, rfl⟩ := hf.parts
  obtain ⟨a1, n1, c1, rfl⟩ := hg.parts
  have hmf := run_makeFunc
  have C : Hid (∀ w1, Frame [] w w1 → Blk w1 w.heap.size 30 #[.slice a0 n0 c0] → Blk w1 (w.heap.size + 1) 30 #[.slice a1 n1 c1] → Blk w1 (w.heap.size + 1 + 1) 3 #[.int .i64 budget] → Calls Try.prog 45 #[.pointer (some ⟨w.heap.size, 0, none⟩), .pointer (some ⟨w.heap.size + 1, 0, none⟩), .pointer (some ⟨w.heap.size + 1 + 1, 0, none⟩)] w1 fun e w' => ∃ v, e = .returned v ∧ FVU (fun b => w1.heap.size ≤ b) w' v (timesL f g) ∧ Frame [] w1 w') := fun w1 q k0 k1 k2 => timesFn_ok _ _ _ a0 a1 n0 c0 n1 c1 f g budget w1 k0 k1 k2 (hf.frame q) (hg.frame q) uf ug lf lg h1 h2
  have BK : Hid (∀ w1, Frame [] ((((w.alloc (.cells #[.slice a0 n0 c0] 30)).alloc (.cells #[.slice a1 n1 c1] 30)).alloc (.cells #[.int .i64 budget] 3)).alloc (.cells #[.slice none 0 0] 30)) w1 → Frame [] w w1 ∧ Blk w1 w.heap.size 30 #[.slice a0 n0 c0] ∧ Blk w1 (w.heap.size + 1) 30 #[.slice a1 n1 c1] ∧ Blk w1 (w.heap.size + 1 + 1) 3 #[.int .i64 budget]) := fun w1 q => by
    have k0 := (((Blk.new w 30 #[.slice a0 n0 c0]).alloc (.cells #[.slice a1 n1 c1] 30)).alloc (.cells #[.int .i64 budget] 3)).alloc (.cells #[.slice none 0 0] 30)
    have k1 := ((Blk.new (w.alloc (.cells #[.slice a0 n0 c0] 30)) 30 #[.slice a1 n1 c1]).alloc (.cells #[.int .i64 budget] 3)).alloc (.cells #[.slice none 0 0] 30)
    have k2 := (Blk.new ((w.alloc (.cells #[.slice a0 n0 c0] 30)).alloc (.cells #[.slice a1 n1 c1] 30)) 3 #[.int .i64 budget]).alloc (.cells #[.slice none 0 0] 30)
    simp only [World.size_alloc] at k1 k2
    have fr : Frame [] w ((((w.alloc (.cells #[.slice a0 n0 c0] 30)).alloc (.cells #[.slice a1 n1 c1] 30)).alloc (.cells #[.int .i64 budget] 3)).alloc (.cells #[.slice none 0 0] 30)) := by (repeat first | assumption | exact Frame.refl _ _ | refine Frame.trans1 ?_ (Frame.alloc _ _ _) | refine Frame.trans1 ?_ (Frame.drew _ _) | refine Frame.trans1 ?_ (Frame.drewN _ _ _))
    exact ⟨fr.trans1 q, k0.frame q (by simp), k1.frame q (by simp), k2.frame q (by simp)⟩
  have k3 : Hid (Blk ((((w.alloc (.cells #[.slice a0 n0 c0] 30)).alloc (.cells #[.slice a1 n1 c1] 30)).alloc (.cells #[.int .i64 budget] 3)).alloc (.cells #[.slice none 0 0] 30)) (w.heap.size + 1 + 1 + 1) 30 #[.slice none 0 0]) := by
    have := Blk.new (((w.alloc (.cells #[.slice a0 n0 c0] 30)).alloc (.cells #[.slice a1 n1 c1] 30)).alloc (.cells #[.int .i64 budget] 3)) 30 #[.slice none 0 0]
    simp only [World.size_alloc] at this
    exact this
  have FR : Hid (Frame [] w ((((w.alloc (.cells #[.slice a0 n0 c0] 30)).alloc (.cells #[.slice a1 n1 c1] 30)).alloc (.cells #[.int .i64 budget] 3)).alloc (.cells #[.slice none 0 0] 30))) := by show Frame [] w _; (repeat first | assumption | exact Frame.refl _ _ | refine Frame.trans1 ?_ (Frame.alloc _ _ _) | refine Frame.trans1 ?_ (Frame.drew _ _) | refine Frame.trans1 ?_ (Frame.drewN _ _ _))
  generalize timesL f g = pl at *
  clear hf hg uf ug lf lg h1 h2
  go_enter Try.func21, Try.ntmps21
  go_wp2_with fail
  generalize ((((w.alloc (.cells #[.slice a0 n0 c0] 30)).alloc (.cells #[.slice a1 n1 c1] 30)).alloc (.cells #[.int .i64 budget] 3)).alloc (.cells #[.slice none 0 0] 30)) = w4 at *
  refine (caught_ret 45 _ pl w4 (by intro args w; simp [go_sem]) (fun w1 q _ => by
    obtain ⟨q1, k0, k1, k2⟩ := BK.out w1 q
    exact C.out w1 q1 k0 k1 k2)).mono ?_
  rintro e w5 ⟨v, rfl, hv, f5⟩
  obtain ⟨a5, n5, c5, rfl⟩ := hv.fv.parts
  have HV := Lib.hid hv
  have BX := k3.out.frame f5 (by simp)
  have bx := BX.at 0 rfl
  have bf := BX.frozen 0
  have HX := Lib.hid BX
  have F5 := Lib.hid (FR.out.trans1 f5)
  have F5a := Lib.hid f5
  clear BX hv f5
  go_wp2_with fail
  refine bodyPost_ret (results_fam rfl _ _ _ _ rfl (HX.out.set 0 _)) rfl ?_
  have hw := k3.out.lt
  have hz : Hid (w.heap.size ≤ w.heap.size + 1 + 1 + 1) := by show _ ≤ _; omega
  have hF : Frame [w.heap.size + 1 + 1 + 1] w5 (w5.setCell ⟨w.heap.size + 1 + 1 + 1, 0, none⟩ (.slice a5 n5 c5)) := Frame.setCell _ _ _ (by simp)
  exact ⟨_, rfl, (HV.out.frame hF fun b hb h => by simp at h; omega).mono fun b hb => Nat.le_trans FR.out.size hb, F5.out.setNew _ _ hz.out⟩
set_option maxHeartbeats 4000000 in
set_option maxRecDepth 100000 in
theorem atimes_bail (v1 v2 : Value) (f g : List (List Int)) (budget : Int) (w : World) (hf : FV w v1 f) (hg : FV w v2 g) (uf : Ups f) (ug : Ups g) (lf : f.length ≤ 100000 ∧ g.length ≤ 100000 ∧ f.length * g.length ≤ 20000) (lg : (∀ s ∈ f, s.length ≤ 500) ∧ ∀ s ∈ g, s.length ≤ 500) (h1 : ¬ (((timesL f g).length : Int) ≤ budget ∧ (timesL f g).length ≤ 5000)) :
    Calls Try.prog 21 #[v1, v2, .int .i64 budget] w fun e w' => e = .returned (.tuple #[.agg #[.slice none 0 0], .int .i64 10]) ∧ Frame [] w w' := by
  obtain ⟨a0, n0, c0, rfl⟩ := hf.parts
  obtain ⟨a1, n1, c1, rfl⟩ := hg.parts
  have hmf := run_makeFunc
  have C : Hid (∀ w1, Frame [] w w1 → Blk w1 w.heap.size 30 #[.slice a0 n0 c0] → Blk w1 (w.heap.size + 1) 30 #[.slice a1 n1 c1] → Blk w1 (w.heap.size + 1 + 1) 3 #[.int .i64 budget] → Calls Try.prog 45 #[.pointer (some ⟨w.heap.size, 0, none⟩), .pointer (some ⟨w.heap.size + 1, 0, none⟩), .pointer (some ⟨w.heap.size + 1 + 1, 0, none⟩)] w1 fun e w' => ∃ chain, e = .panicked chain ∧ bailing w1 10 (timesL f g).length chain w' ∧ Frame [] w1 w') := fun w1 q k0 k1 k2 => timesFn_bail _ _ _ a0 a1 n0 c0 n1 c1 f g budget w1 k0 k1 k2 (hf.frame q) (hg.frame q) uf ug lf lg h1
  have BK : Hid (∀ w1, Frame [] ((((w.alloc (.cells #[.slice a0 n0 c0] 30)).alloc (.cells #[.slice a1 n1 c1] 30)).alloc (.cells #[.int .i64 budget] 3)).alloc (.cells #[.slice none 0 0] 30)) w1 → Frame [] w w1 ∧ Blk w1 w.heap.size 30 #[.slice a0 n0 c0] ∧ Blk w1 (w.heap.size + 1) 30 #[.slice a1 n1 c1] ∧ Blk w1 (w.heap.size + 1 + 1) 3 #[.int .i64 budget]) := fun w1 q => by
    have k0 := (((Blk.new w 30 #[.slice a0 n0 c0]).alloc (.cells #[.slice a1 n1 c1] 30)).alloc (.cells #[.int .i64 budget] 3)).alloc (.cells #[.slice none 0 0] 30)
    have k1 := ((Blk.new (w.alloc (.cells #[.slice a0 n0 c0] 30)) 30 #[.slice a1 n1 c1]).alloc (.cells #[.int .i64 budget] 3)).alloc (.cells #[.slice none 0 0] 30)
    have k2 := (Blk.new ((w.alloc (.cells #[.slice a0 n0 c0] 30)).alloc (.cells #[.slice a1 n1 c1] 30)) 3 #[.int .i64 budget]).alloc (.cells #[.slice none 0 0] 30)
    simp only [World.size_alloc] at k1 k2
    have fr : Frame [] w ((((w.alloc (.cells #[.slice a0 n0 c0] 30)).alloc (.cells #[.slice a1 n1 c1] 30)).alloc (.cells #[.int .i64 budget] 3)).alloc (.cells #[.slice none 0 0] 30)) := by (repeat first | assumption | exact Frame.refl _ _ | refine Frame.trans1 ?_ (Frame.alloc _ _ _) | refine Frame.trans1 ?_ (Frame.drew _ _) | refine Frame.trans1 ?_ (Frame.drewN _ _ _))
    exact ⟨fr.trans1 q, k0.frame q (by simp), k1.frame q (by simp), k2.frame q (by simp)⟩
  have k3 : Hid (Blk ((((w.alloc (.cells #[.slice a0 n0 c0] 30)).alloc (.cells #[.slice a1 n1 c1] 30)).alloc (.cells #[.int .i64 budget] 3)).alloc (.cells #[.slice none 0 0] 30)) (w.heap.size + 1 + 1 + 1) 30 #[.slice none 0 0]) := by
    have := Blk.new (((w.alloc (.cells #[.slice a0 n0 c0] 30)).alloc (.cells #[.slice a1 n1 c1] 30)).alloc (.cells #[.int .i64 budget] 3)) 30 #[.slice none 0 0]
    simp only [World.size_alloc] at this
    exact this
  have FR : Hid (Frame [] w ((((w.alloc (.cells #[.slice a0 n0 c0] 30)).alloc (.cells #[.slice a1 n1 c1] 30)).alloc (.cells #[.int .i64 budget] 3)).alloc (.cells #[.slice none 0 0] 30))) := by show Frame [] w _; (repeat first | assumption | exact Frame.refl _ _ | refine Frame.trans1 ?_ (Frame.alloc _ _ _) | refine Frame.trans1 ?_ (Frame.drew _ _) | refine Frame.trans1 ?_ (Frame.drewN _ _ _))
  generalize timesL f g = pl at *
  clear hf hg uf ug lf lg h1
  go_enter Try.func21, Try.ntmps21
  go_wp2_with fail
  generalize ((((w.alloc (.cells #[.slice a0 n0 c0] 30)).alloc (.cells #[.slice a1 n1 c1] 30)).alloc (.cells #[.int .i64 budget] 3)).alloc (.cells #[.slice none 0 0] 30)) = w4 at *
  refine (caught_bail 45 _ w4 pl.length (by intro args w; simp [go_sem]) (fun w1 q _ => by
    obtain ⟨q1, k0, k1, k2⟩ := BK.out w1 q
    exact C.out w1 q1 k0 k1 k2)).mono ?_
  rintro e w5 ⟨rfl, f5⟩
  have BX := k3.out.frame f5 (by simp)
  have bx := BX.at 0 rfl
  have bf := BX.frozen 0
  have HX := Lib.hid BX
  have F5 := Lib.hid (FR.out.trans1 f5)
  clear BX f5
  go_wp2_with fail
  refine bodyPost_ret (results_fam rfl _ _ _ _ rfl (HX.out.set 0 _)) rfl ?_
  have hz : Hid (w.heap.size ≤ w.heap.size + 1 + 1 + 1) := by show _ ≤ _; omega
  exact ⟨rfl, F5.out.setNew _ _ hz.out⟩
end Go.Proofs.Ytojfemaamhampaa
