/- slices.Grow of nil, slices.Concat over []int. -/
import Derived.Test.YtojfemaamhampaaSets5
import Derived.Lib.AppendZerosOnto
import Derived.Lib.SliceRun
namespace Go.Proofs.Ytojfemaamhampaa
open Go.RowKit
set_option linter.unusedSimpArgs false
set_option linter.unusedVariables false

set_option maxHeartbeats 4000000 in
set_option maxRecDepth 100000 in
theorem grow_any (n : Nat) (w : World) (hn : n ≤ 100000000) :
    Calls Try.prog 63 #[.slice none 0 0, .int .i64 n] w (FreshEnd 3 1 encI ([] : List Int) w) := by
  have h1 : ¬ ((n : Int) < 0) := by omega
  rcases Nat.eq_zero_or_pos n with rfl | h0
  · go_enter Try.func63, Try.ntmps63
    go_wp2_with fail
    go_ret
    refine ⟨none, 0, [], rfl, Sl.nil _ _ _ _, ?_, by simp⟩
    (repeat first | assumption | exact Frame.refl _ _ | refine Frame.trans1 ?_ (Frame.alloc _ _ _) | refine Frame.trans1 ?_ (Frame.drew _ _) | refine Frame.trans1 ?_ (Frame.drewN _ _ _))
  · obtain ⟨i0, h2, h3, h4, h5⟩ := info_parts infoInt
    have hrz : ∀ ty, (Builtin.append_ #[22, 3] ty #[.slice none 0 0, .int .i64 (n : Int)]).run Try.prog w =
      .ok (.slice (some ⟨w.heap.size, 0, none⟩) n (grownCap w n 0 3)) (w.drew.alloc (.cells (Builtin.zeroCells (Value.cells (.int .i64 0)) n ++ Builtin.zeroCells (Value.cells (.int .i64 0)) (grownCap w n 0 3 - n)) 3)) := fun ty => by
      have h := Lib.run_append_grow_zeros w 22 3 ty 3 i0 (.int .i64 0) .i64 .i64 Try.underlying22 Try.underlying3 h2 h3 none 0 0 [] (run_firstCells_none w.drew i0.size 0 0 0) n h0 (by omega) (by omega) (by omega) (by rw [h5]; omega) (growslice_fits (need := 0 + n) (old := 0) (bytes := i0.bytes) (by omega) (by rw [h5]; omega))
      simpa using h
    have hGn : n ≤ grownCap w n 0 3 := grownCap_ge w _ _ _
    have hGm := grownCap_le_maxLen w n 0 3 (by unfold maxLen; omega)
    generalize grownCap w n 0 3 = m at *
    have hm63 : m ≤ 9223372036854775807 := by unfold maxLen at hGm; omega
    have hsz : (Builtin.zeroCells (Value.cells (.int .i64 0)) n ++ Builtin.zeroCells (Value.cells (.int .i64 0)) (m - n)).size = m := by
      rw [Array.size_append, size_zeroCells, size_zeroCells]
      show n * 1 + (m - n) * 1 = m
      omega
    generalize Builtin.zeroCells (Value.cells (.int .i64 0)) n ++ Builtin.zeroCells (Value.cells (.int .i64 0)) (m - n) = cs at *
    have S : Hid (Sl (w.drew.alloc (.cells cs 3)) 3 1 encI (.slice (some ⟨w.heap.size, 0, none⟩) 0 m) ([] : List Int) [w.heap.size]) := .inr ⟨w.heap.size, m, rfl, rfl, RowAt.of_blk (Blk.new w.drew _ _) (Nat.zero_le _) hGm (by omega) (by simp)⟩
    have w1 : IntKind.i64.wrap (n : Int) = n := IntWalk.i64_in _ (by omega)
    have h6 : (n : Int) > 0 := by omega
    clear h2 h3 h4 h5 hsz
    go_enter Try.func63, Try.ntmps63
    go_wp2_with (at_builtin; refine Lib.wpList_append_run _ rfl _ _ _ _ rfl _ _ rfl rfl _ _ (hrz _) ?_)
    all_goals
      go_ret
      refine ⟨_, _, _, rfl, S.out, ?_, by simp⟩
      (repeat first | assumption | exact Frame.refl _ _ | refine Frame.trans1 ?_ (Frame.alloc _ _ _) | refine Frame.trans1 ?_ (Frame.drew _ _) | refine Frame.trans1 ?_ (Frame.drewN _ _ _))
theorem rdI_rf5 {w : World} {a : Option Addr} {xs : List Int} (h : RdI w a xs) : RF (fun b => b < w.heap.size) w 1 encI a xs := fun k x hx => by
  obtain ⟨hk, rfl⟩ := List.getElem?_eq_some_iff.1 hx
  rcases h with rfl | ⟨b, off, h1, h2, h3⟩
  · simp at hk
  · refine ⟨b, off, h1, h2, fun j u hu => ?_⟩
    cases j with
    | zero => simp [encI] at hu; subst hu; rw [Nat.mul_one, Nat.add_zero]; exact h3 k hk
    | succ j => simp [encI] at hu
def catL (vs : List SV) : List Int := vs.flatMap (·.l)
theorem catL_next {vs : List SV} {k : Nat} {s : SV} (h : vs[k]? = some s) : catL (vs.take (k + 1)) = catL (vs.take k) ++ s.l := by
  rw [take_one' h]; simp [catL]
theorem catL_len {vs : List SV} (h : ∀ s ∈ vs, s.l.length ≤ 1000) : (catL vs).length ≤ 1000 * vs.length := by
  induction vs with
  | nil => simp [catL]
  | cons s t ih =>
    have h1 := h s (by simp)
    have h2 := ih fun x hx => h x (by simp [hx])
    simp [catL] at h2 ⊢
    omega
set_option maxHeartbeats 4000000 in
set_option maxRecDepth 100000 in
theorem concat_any (a : Option Addr) (c : Nat) (vs : List SV) (w : World) (h : RV w a vs) (hl : vs.length ≤ 1000) (hs : ∀ s ∈ vs, s.l.length ≤ 1000) :
    Calls Try.prog 46 #[.slice a vs.length c] w (FreshEnd 3 1 encI (catL vs) w) := by
  have H := Lib.hid h
  have HS := Lib.hid hs
  have LN : Hid (∀ k, (catL (vs.take k)).length ≤ 1000000) := fun k => by
    have h1 := catL_len (vs := vs.take k) fun s hm => hs s (List.mem_of_mem_take hm)
    have h2 : (vs.take k).length ≤ 1000 := by rw [List.length_take]; omega
    omega
  clear h hs
  go_enter Try.func46, Try.ntmps46
  go_wp2_with fail
  go_loopw [3, 11] (fun u i wr => ∃ (k n : Nat), k ≤ vs.length ∧ i = .int .i64 k ∧ u = .int .i64 n ∧ Hid (n = (catL (vs.take k)).length ∧ Frame [] w wr)) (fun _ i _ => vs.length - (intOf i).toNat)
  case atStart => exact ⟨0, 0, Nat.zero_le _, rfl, rfl, by show _ ∧ _; exact ⟨by simp [catL], by (repeat first | assumption | exact Frame.refl _ _ | refine Frame.trans1 ?_ (Frame.alloc _ _ _) | refine Frame.trans1 ?_ (Frame.drew _ _) | refine Frame.trans1 ?_ (Frame.drewN _ _ _))⟩⟩
  case round =>
    obtain ⟨k, n, hk, rfl, rfl, hR⟩ := hrel
    rename World => wr
    by_cases hlt : k < vs.length
    · have g1 : vs[k]? = some vs[k] := by simp [hlt]
      have W1 := H.out.frame hR.out.2
      obtain ⟨b1, o1, rfl, q1⟩ := RF.atV W1.rf g1
      have NX := Lib.hid (catL_next g1)
      have hn := LN.out (k + 1)
      rw [NX.out, List.length_append, ← hR.out.1] at hn
      generalize vs[k] = s at *
      have w1 : IntKind.i64.wrap ((n : Int) + (s.l.length : Int)) = (n : Int) + (s.l.length : Int) := IntWalk.i64_in _ (by omega)
      have hneg : decide ((n : Int) + (s.l.length : Int) < 0) = false := decide_eq_false (by omega)
      clear g1 W1
      go_wp2_with fail
      go_roundw
      case rel => exact ⟨k + 1, n + s.l.length, by omega, by first | rfl | go_num, by first | rfl | go_num, by show _ ∧ _; exact ⟨by rw [NX.out, List.length_append, ← hR.out.1], hR.out.2⟩⟩
      case measure => first | (simp [intOf]; done) | (simp [intOf]; omega)
    · obtain rfl : k = vs.length := by omega
      have hn := LN.out vs.length
      rw [← hR.out.1] at hn
      go_wp2_with fail
      refine (grow_any n wr (by omega)).mono ?_
      rintro e w2 ⟨a2, c2, G2, rfl, s2, f2, g2⟩
      have S2 := Lib.hid s2
      have G2' := Lib.hid (fun x hx => Nat.le_trans hR.out.2.size (g2 x hx))
      have F2 := Lib.hid (hR.out.2.trans1 f2)
      clear s2 f2 g2 hR
      go_wp2_with fail
      go_loopw [6, 27] (fun u i wr => ∃ (k n : Nat) (a' : Option Addr) (c' : Nat) (G : List Nat), k ≤ vs.length ∧ i = .int .i64 k ∧ u = .slice a' n c' ∧ Hid (n = (catL (vs.take k)).length ∧ Sl wr 3 1 encI (.slice a' n c') (catL (vs.take k)) G ∧ Frame [] w wr ∧ ∀ x ∈ G, w.heap.size ≤ x)) (fun _ i _ => vs.length - (intOf i).toNat)
      case atStart => exact ⟨0, 0, a2, c2, G2, Nat.zero_le _, rfl, rfl, by show _ ∧ _ ∧ _ ∧ _; exact ⟨by simp [catL], by simpa [catL] using S2.out, F2.out, G2'.out⟩⟩
      case round =>
        obtain ⟨k, m, a3, c3, G3, hk, rfl, rfl, hR⟩ := hrel
        rename World => wo
        by_cases hlt : k < vs.length
        · have g1 : vs[k]? = some vs[k] := by simp [hlt]
          have W1 := H.out.frame hR.out.2.2.1
          have oks := W1.ok _ (List.getElem_mem hlt)
          obtain ⟨b1, o1, rfl, q1⟩ := RF.atV W1.rf g1
          have NX := Lib.hid (catL_next g1)
          have hn2 := LN.out (k + 1)
          rw [NX.out, List.length_append, ← hR.out.1] at hn2
          generalize vs[k] = s at *
          have OK := Lib.hid oks
          clear g1 W1 oks
          go_wp2_with (at_builtin; refine wpList_append_rf rfl (.tmp 31) (.tmp 32) 22 rfl 3 1 8 _ encI Try.underlying22 infoInt rfl (by omega) (.slice a3 m c3) (catL (vs.take k)) m hR.out.1.symm G3 rfl hR.out.2.1 (fun b => b < wo.heap.size) s.a s.l.length s.c s.l rfl (rdI_rf5 OK.out.rd) rfl encI_len encI_one (m + s.l.length) rfl (by omega) (by omega) ?_; intro a4 cap4 w4 G4 sl4 f4 hG4; have R4 := Lib.hid (And.intro sl4 (And.intro f4 hG4)); clear sl4 f4 hG4)
          go_roundw
          case rel => exact ⟨k + 1, m + s.l.length, a4, cap4, G4, by omega, by first | rfl | go_num, rfl, by
            show _ ∧ _ ∧ _ ∧ _
            rw [NX.out]
            refine ⟨by rw [List.length_append, ← hR.out.1], R4.out.1, hR.out.2.2.1.trans R4.out.2.1 (fun x hx => .inr (hR.out.2.2.2 x hx)), fun x hx => ?_⟩
            rcases R4.out.2.2 x hx with h | h
            · exact hR.out.2.2.2 x h
            · exact Nat.le_trans hR.out.2.2.1.size h⟩
          case measure => first | (simp [intOf]; done) | (simp [intOf]; omega)
        · obtain rfl : k = vs.length := by omega
          have hR' := hR.out
          rw [List.take_length] at hR'
          have HR := Lib.hid hR'
          clear hR hR'
          go_wp2_with fail
          go_ret
          obtain ⟨h1, h2, h3, h4⟩ := HR.out
          subst h1
          exact ⟨a3, c3, G3, rfl, h2, h3, h4⟩
end Go.Proofs.Ytojfemaamhampaa
