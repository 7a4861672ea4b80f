/- Families: Sets, Len, Has, Zero, One. -/
import Derived.Test.YtojfemaamhampaaFam5
namespace Go.Proofs.Ytojfemaamhampaa
open Go.RowKit
set_option linter.unusedSimpArgs false
set_option linter.unusedVariables false

theorem azero_any (w : World) : Calls Try.prog 25 #[] w fun e w' => e = .returned (.agg #[.slice none 0 0]) ∧ Frame [] w w' := by
  have BX := Lib.hid (Blk.new w 30 #[.slice none 0 0])
  go_enter Try.func25, Try.ntmps25
  go_wp2_with fail
  refine bodyPost_ret (results_fam1 rfl _ _ _ _ rfl BX.out) rfl ?_
  exact ⟨rfl, Frame.alloc _ _ _⟩
theorem alen_any (a : Option Addr) (n c : Nat) (w : World) : Calls Try.prog 26 #[.agg #[.slice a n c]] w fun e w' => e = .returned (.int .i64 n) ∧ Frame [] w w' := by
  go_enter Try.func26, Try.ntmps26
  go_wp2_with fail
  go_ret
  exact ⟨rfl, by (repeat first | assumption | exact Frame.refl _ _ | refine Frame.trans1 ?_ (Frame.alloc _ _ _) | refine Frame.trans1 ?_ (Frame.drew _ _) | refine Frame.trans1 ?_ (Frame.drewN _ _ _))⟩
theorem entered_hasFn : Entered 40 := by intro args w; simp [go_sem]
theorem hasFn_any (t : SV) (s : SV) (box : Nat) (w : World) (hc : w.cell? ⟨box, 0, none⟩ = some (.slice s.a s.l.length s.c)) (ht : t.ok (fun _ => True) w) (hs : s.ok (fun _ => True) w) (ut : Up t.l) (us : Up s.l) :
    Calls Try.prog 40 #[.slice t.a t.l.length t.c, .pointer (some ⟨box, 0, none⟩)] w fun e w' => e = .returned (.bool (subB t.l s.l)) ∧ w' = w := by
  have A := Lib.hid (part_any t.a s.a t.c s.c t.l s.l w ht.rd hs.rd ht.len hs.len ut us)
  clear ht hs ut us
  generalize subB t.l s.l = r at *
  go_enter Try.func40, Try.ntmps40
  go_wp2_with fail
  refine A.out.mono ?_
  rintro e w' ⟨rfl, rfl⟩
  go_wp2_with fail
  go_ret
  exact ⟨rfl, rfl⟩
set_option maxRecDepth 100000 in
theorem ahas_any (v : Value) (f : List (List Int)) (a2 : Option Addr) (c2 : Nat) (S : List Int) (w : World) (h : FV w v f) (hu : Ups f) (hl : f.length ≤ 1000000) (hS : RdI w a2 S) (hSl : S.length ≤ 1000000) :
    Calls Try.prog 17 #[v, .slice a2 S.length c2] w fun e w' => e = .returned (.bool (hasL f S)) ∧ Frame [] w w' := by
  obtain ⟨a, c, vs, rfl, hr, rfl⟩ := h
  have hvl : vs.length ≤ 1000000 := by simpa using hl
  have HU : Hid (∀ s ∈ vs, Up s.l) := fun s hs => hu _ (List.mem_map_of_mem hs)
  have HS : Hid (RdI w a2 S) := hS
  have R := Lib.hid hr
  have ha : Hid (vs.any (fun t => subB t.l (srtI S)) = hasL (vs.map (·.l)) S) := by
    show _ = _
    unfold hasL
    rw [List.any_map]
    congr 1
    funext t
    show subB t.l (srtI S) = subB t.l S
    rw [Bool.eq_iff_iff, subB_iff, subB_iff, Sub.srt]
  generalize hasL (vs.map (·.l)) S = r at *
  have A := Lib.hid (fun (w' : World) (f : Frame [] w w') => asorted_any a2 c2 S w' (HS.out.frame f) hSl)
  have hsl := srtI_len S
  have HSU := Lib.hid (srtI_up S)
  generalize srtI S = zs at *
  clear hr hu hl hS
  go_enter Try.func17, Try.ntmps17
  go_wp2_with fail
  refine (A.out _ (by (repeat first | assumption | exact Frame.refl _ _ | refine Frame.trans1 ?_ (Frame.alloc _ _ _) | refine Frame.trans1 ?_ (Frame.drew _ _) | refine Frame.trans1 ?_ (Frame.drewN _ _ _)))).mono ?_
  rintro e w1 ⟨a3, c3, G, rfl, s1, f1, g1⟩
  have BX := ((Blk.new w 30 #[.slice a vs.length c]).frame f1 (by simp))
  have bx := BX.alloc (.cells #[.slice a3 zs.length c3] 22) |>.at 0 rfl
  have F1 := Lib.hid ((Frame.alloc [] w _).trans1 f1)
  have S1 := Lib.hid s1
  clear f1 s1 g1 BX
  have T : Hid (TellsV (w1.alloc (.cells #[.slice a3 zs.length c3] 22)) 40 #[.pointer (some ⟨w1.heap.size, 0, none⟩)] vs (fun t => subB t.l zs)) := ⟨entered_hasFn, fun w' f t ht => by
    have hb := f.cell ((Blk.new w1 22 #[.slice a3 zs.length c3]).at 0 rfl) (by simp)
    have f' := (Frame.alloc [] w1 (.cells #[.slice a3 zs.length c3] 22)).trans1 f
    have o1 := ((R.out.ok t ht).frame F1.out (by simp)).frame f' (by simp)
    have o2 : SV.ok (fun _ => True) w' ⟨a3, c3, zs⟩ := ⟨(S1.out.frame0 f').rdI, by show zs.length ≤ 1000000; omega, fun _ _ _ _ => trivial⟩
    exact (hasFn_any t ⟨a3, c3, zs⟩ _ w' hb o1 o2 (HU.out t ht) HSU.out).mono fun e w'' ⟨he, hw⟩ => ⟨he, by rw [hw]; exact Frame.refl _ _⟩⟩
  have C := Lib.hid (containsFunc_ints _ a c vs _ _ _ _ ((R.out.frame F1.out).frame (Frame.alloc [] w1 (.cells #[.slice a3 zs.length c3] 22))).rf (by omega) T.out)
  rw [ha.out] at C
  go_wp2_with fail
  refine C.out.mono ?_
  rintro e w2 ⟨rfl, f2⟩
  go_wp2_with fail
  go_ret
  exact ⟨rfl, F1.out.trans1 ((Frame.alloc [] w1 _).trans1 f2)⟩
end Go.Proofs.Ytojfemaamhampaa
