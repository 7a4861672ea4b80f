/- slices.Insert of one element at the end. -/
import Derived.Test.YtolkmapdbilolaaGMem
import Derived.Test.YtolkmapdbilolaaCells
namespace Go.Proofs.Ytolkmapdbilolaa
open Go.RowKit
set_option linter.unusedSimpArgs false
set_option linter.unusedVariables false

set_option maxRecDepth 100000 in
theorem ins_node_end (v : Value) (xs : List Nd) (x : Nd) (G : List Nat) (vb : Nat) (w : World) (h : Sl w 86 3 Nd.cs v xs G) (hx : Blk w vb 86 #[.int .i64 x.id, .slice x.la x.ln x.lc, .slice x.pa x.pn x.pc]) (hn : xs.length ≤ 1000000) :
    Calls Try.prog 65 #[v, .int .i64 xs.length, .slice (some ⟨vb, 0, none⟩) 1 1] w fun e w' => ∃ b' cap', e = .returned (.slice (some ⟨b', 0, none⟩) (xs.length + 1) cap') ∧ Sl w' 86 3 Nd.cs (.slice (some ⟨b', 0, none⟩) (xs.length + 1) cap') (xs ++ [x]) [b'] ∧ Frame G w w' ∧ (b' ∈ G ∨ b' = w.heap.size) := by
  have B := Lib.hid hx
  clear hx
  rcases id h with ⟨rfl, rfl, rfl⟩ | ⟨b, cap, rfl, rfl, hr⟩
  · have S := Lib.hid h
    clear h
    simp only [List.length_nil, Nat.zero_add, List.nil_append]

    go_enter Try.func65, Try.ntmps65
    go_wp2_with (at_builtin; refine wpList_append_sl _ rfl (.tmp 23) (.tmp 24) 52 rfl 86 3 56 _ Nd.cs Try.underlying52 infoNode rfl (by omega) (.slice none 0 0) [] [] rfl S.out vb 1 1 [x] _ rfl B.out rfl rfl nd_len nd_one (by omega) (by first | omega | (simp; done)) (by omega) ?_; intro b' cap' w4 sl4 f4 hb4)
    all_goals (go_ret; exact ⟨_, _, rfl, by simpa using sl4, f4, by simpa using hb4⟩)
  · have S := Lib.hid h
    obtain ⟨_, _, hnc, _⟩ := hr.blk
    clear h hr

    go_enter Try.func65, Try.ntmps65
    go_wp2_with (at_builtin; refine wpList_append_sl _ rfl (.tmp 23) (.tmp 24) 52 rfl 86 3 56 _ Nd.cs Try.underlying52 infoNode rfl (by omega) (.slice (some ⟨b, 0, none⟩) xs.length cap) xs [b] rfl S.out vb 1 1 [x] _ rfl B.out rfl rfl nd_len nd_one (by omega) (by first | omega | (simp; done)) (by omega) ?_; intro b' cap' w4 sl4 f4 hb4)
    all_goals (go_ret; exact ⟨_, _, rfl, by simpa using sl4, f4, by simpa using hb4⟩)
end Go.Proofs.Ytolkmapdbilolaa
