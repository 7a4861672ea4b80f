/- tansylaw5.awake. -/
import Derived.Test.YtojfemaamhampaaFam6
import Derived.Test.YtojfemaamhampaaSets5
import Derived.Test.YtojfemaamhampaaLists5
namespace Go.Proofs.Ytojfemaamhampaa
open Go.RowKit
set_option linter.unusedSimpArgs false
set_option linter.unusedVariables false

theorem rdI_blk {w : World} {b T : Nat} {cs : Array Value} {xs : List Int} (h : Blk w b T cs) (hc : cs.toList = xs.map (Value.int .i64)) : RdI w (some ⟨b, 0, none⟩) xs := by
  refine .inr ⟨b, 0, rfl, h.lt, fun k hk => ?_⟩
  rw [Nat.zero_add]
  refine h.at k ?_
  rw [← Array.getElem?_toList, hc]
  simp [hk]
theorem rf_blkV {w : World} {b T : Nat} {cs : Array Value} {vs : List SV} (h : Blk w b T cs) (hc : cs.toList = vs.map SV.v) : RF (fun x => x < w.heap.size) w 1 encV (some ⟨b, 0, none⟩) vs := fun k s hs => by
  refine ⟨b, 0, rfl, h.lt, fun j u hu => ?_⟩
  cases j with
  | zero =>
    simp [encV] at hu
    subst hu
    have := h.at k (v := s.v) (by rw [← Array.getElem?_toList, hc]; simp [hs])
    simpa using this
  | succ j => simp [encV] at hu
theorem SV.ok_blk {w : World} {b T c : Nat} {cs : Array Value} {xs : List Int} (h : Blk w b T cs) (hc : cs.toList = xs.map (Value.int .i64)) (hl : xs.length ≤ 1000000) : SV.ok (fun _ => True) w ⟨some ⟨b, 0, none⟩, c, xs⟩ := ⟨rdI_blk h hc, hl, fun _ _ _ _ => trivial⟩
set_option maxHeartbeats 4000000 in
set_option maxRecDepth 100000 in
theorem awake5 (w : World) : Calls Try.prog 9 #[] w fun e w' => e = .returned (.bool true) ∧ Frame [] w w' := by
  have RV0 : Hid (RV (((w.alloc (.cells #[.int .i64 2, .int .i64 1, .int .i64 2] 3)).alloc (.cells #[.int .i64 1] 3)).alloc (.cells #[.slice (some ⟨w.heap.size, 0, none⟩) 3 3, .slice (some ⟨w.heap.size + 1, 0, none⟩) 1 1] 22)) (some ⟨w.heap.size + 1 + 1, 0, none⟩) [⟨some ⟨w.heap.size, 0, none⟩, 3, [2, 1, 2]⟩, ⟨some ⟨w.heap.size + 1, 0, none⟩, 1, [1]⟩]) := by
    have B1 := ((Blk.new w 3 #[.int .i64 2, .int .i64 1, .int .i64 2]).alloc (.cells #[.int .i64 1] 3)).alloc (.cells #[.slice (some ⟨w.heap.size, 0, none⟩) 3 3, .slice (some ⟨w.heap.size + 1, 0, none⟩) 1 1] 22)
    have B2 := (Blk.new (w.alloc (.cells #[.int .i64 2, .int .i64 1, .int .i64 2] 3)) 3 #[.int .i64 1]).alloc (.cells #[.slice (some ⟨w.heap.size, 0, none⟩) 3 3, .slice (some ⟨w.heap.size + 1, 0, none⟩) 1 1] 22)
    have B3 := Blk.new ((w.alloc (.cells #[.int .i64 2, .int .i64 1, .int .i64 2] 3)).alloc (.cells #[.int .i64 1] 3)) 22 #[.slice (some ⟨w.heap.size, 0, none⟩) 3 3, .slice (some ⟨w.heap.size + 1, 0, none⟩) 1 1]
    simp only [World.size_alloc] at B2 B3
    refine ⟨rf_blkV B3 rfl, fun s hs => ?_⟩
    simp only [List.mem_cons, List.not_mem_nil, or_false] at hs
    rcases hs with rfl | rfl
    · exact SV.ok_blk B1 rfl (by decide)
    · exact SV.ok_blk B2 rfl (by decide)
  have F0 := Lib.hid (((Frame.alloc [] w (.cells #[.int .i64 2, .int .i64 1, .int .i64 2] 3)).trans1 (Frame.alloc [] _ (.cells #[.int .i64 1] 3))).trans1 (Frame.alloc [] _ (.cells #[.slice (some ⟨w.heap.size, 0, none⟩) 3 3, .slice (some ⟨w.heap.size + 1, 0, none⟩) 1 1] 22)))
  have A := aof_any (some ⟨w.heap.size + 1 + 1, 0, none⟩) 2 _ _ RV0.out (by simp)
  simp only [List.map_cons, List.map_nil, show goodL [[2, 1, 2], [1]] = true by decide +kernel, show leastR [[2, 1, 2], [1]] = [[1]] by decide +kernel, if_true] at A
  have HA := Lib.hid A
  clear A
  go_enter Try.func9, Try.ntmps9
  go_wp2_with fail
  refine HA.out.mono ?_
  rintro e w1 ⟨v, rfl, ⟨a1, c1, vs1, rfl, rv1, hm1⟩, f1⟩
  have RV1 := Lib.hid rv1
  have HM1 := Lib.hid hm1
  have F1 := Lib.hid (F0.out.trans1 f1)
  clear rv1 hm1 f1 HA RV0 F0
  go_wp2_with fail
  have F1b := Lib.hid (F1.out.trans1 (Frame.alloc [] w1 (.cells #[.slice a1 vs1.length c1] 30)))
  refine (asets_any _ [[1]] _ ⟨a1, c1, vs1, rfl, RV1.out.frame (Frame.alloc [] _ _), HM1.out⟩ (by simp)).mono ?_
  rintro e w2 ⟨a2, c2, vs2, G2, rfl, ov2, hm2, -, f2, -⟩
  have RV2 := Lib.hid ov2.rv
  have HM2 := Lib.hid hm2
  have F2 := Lib.hid (F1b.out.trans1 f2)
  clear ov2 hm2 f2
  go_wp2_with fail
  have B4 := (Blk.new w2 3 #[.int .i64 1]).alloc (.cells #[.slice (some ⟨w2.heap.size, 0, none⟩) 1 1] 22)
  have B5 := Blk.new (w2.alloc (.cells #[.int .i64 1] 3)) 22 #[.slice (some ⟨w2.heap.size, 0, none⟩) 1 1]
  simp only [World.size_alloc] at B5
  have L := lists_any a2 (some ⟨w2.heap.size + 1, 0, none⟩) c2 1 vs2 [⟨some ⟨w2.heap.size, 0, none⟩, 1, [1]⟩] _ ((RV2.out.frame (Frame.alloc [] _ (.cells #[.int .i64 1] 3))).frame (Frame.alloc [] _ (.cells #[.slice (some ⟨w2.heap.size, 0, none⟩) 1 1] 22))) ⟨rf_blkV B5 rfl, fun s hs => by obtain rfl := List.mem_singleton.1 hs; exact SV.ok_blk B4 rfl (by decide)⟩ (by have h := congrArg List.length HM2.out; simp at h; omega) (by simp)
  rw [HM2.out] at L
  simp only [List.map_cons, List.map_nil, decide_true] at L
  refine L.mono ?_
  rintro e w3 ⟨rfl, f3⟩
  have F3 := Lib.hid (((F2.out.trans1 (Frame.alloc [] _ _)).trans1 (Frame.alloc [] _ _)).trans1 f3)
  clear L B4 B5 f3
  go_wp2_with fail
  refine (aone_any _).mono ?_
  rintro e w4 ⟨v4, rfl, ⟨a4, c4, vs4, rfl, -, hm4⟩, f4⟩
  have n4 : vs4.length = 1 := by have h := congrArg List.length hm4; simpa using h
  have F4 := Lib.hid (F3.out.trans1 f4)
  rw [n4]
  clear f4 hm4
  go_wp2_with fail
  refine (alen_any a4 1 c4 _).mono ?_
  rintro e w5 ⟨rfl, f5⟩
  have F5 := Lib.hid (F4.out.trans1 f5)
  clear f5
  go_wp2_with fail
  refine (azero_any _).mono ?_
  rintro e w6 ⟨rfl, f6⟩
  have F6 := Lib.hid (F5.out.trans1 f6)
  clear f6
  go_wp2_with fail
  refine (alen_any none 0 0 _).mono ?_
  rintro e w7 ⟨rfl, f7⟩
  have F7 := Lib.hid (F6.out.trans1 f7)
  clear f7
  go_wp2_with fail
  refine (asubset_any none none 0 0 [] [] w7 (.inl rfl) (.inl rfl) (by simp) (by simp)).mono ?_
  rintro e w8 ⟨rfl, f8⟩
  have F8 := Lib.hid (F7.out.trans1 f8)
  clear f8
  go_wp2_with fail
  go_ret
  exact ⟨rfl, F8.out⟩
end Go.Proofs.Ytojfemaamhampaa
