/- slices.Insert of one element, at any place: nodes, texts, properties. -/
import Derived.Test.YtjcajidgaejhoaaGreatMi07
import Derived.Test.YtjcajidgaejhoaaGreatMi08
import Derived.Deep.RegionLaw
namespace Go.Proofs.YtjcajidgaejhoaaGreat
open Go.RowKit
set_option linter.unusedSimpArgs false
set_option linter.unusedVariables false

theorem over_two {cs : List Value} {c p q r u : Nat} {pre mid new : List Value} (hp : pre.length = p) (hu : new.length = u) (hm : mid.length = q) (hc : cs.take (p + q) = pre ++ mid) (hl : p + u + q ≤ cs.length) :
    (over (over cs (p + u) mid) p new).take (p + u + q) = pre ++ new ++ mid := by
  have h0 : cs.take p = pre := by
    have : cs.take p = (cs.take (p + q)).take p := by rw [List.take_take]; congr 1; omega
    rw [this, hc, List.take_append_of_le_length (by omega), List.take_of_length_le (by omega)]
  unfold over
  have e1 : (cs.take (p + u) ++ mid ++ cs.drop (p + u + mid.length)).take p = pre := by
    rw [List.append_assoc, List.take_append_of_le_length (by simp; omega), List.take_take, show min p (p + u) = p by omega, h0]
  have e2 : (cs.take (p + u) ++ mid ++ cs.drop (p + u + mid.length)).drop (p + new.length) = mid ++ cs.drop (p + u + mid.length) := by
    rw [List.append_assoc, List.drop_append_of_le_length (by simp; omega), List.drop_of_length_le (by simp; omega)]
    rfl
  rw [e1, e2, ← List.append_assoc]
  rw [List.take_append_of_le_length (by simp; omega), List.take_of_length_le (by simp; omega)]
theorem over_seq {cs : List Value} {p q u : Nat} {pre mid new : List Value} (hu : new.length = u) (hm : mid.length = q) (hp : pre.length = p) (hc : cs.take p = pre) (hl : p + u + q ≤ cs.length) :
    (over (over cs p new) (p + u) mid).take (p + u + q) = pre ++ new ++ mid := by
  unfold over
  have e1 : (cs.take p ++ new ++ cs.drop (p + new.length)).take (p + u) = pre ++ new := by
    rw [hc, List.take_append_of_le_length (by simp; omega), List.take_of_length_le (by simp; omega)]
  rw [e1, List.take_append_of_le_length (by simp; omega), List.take_of_length_le (by simp; omega)]
theorem zeroCells_size (z : Array Value) (n : Nat) : (Builtin.zeroCells z n).size = n * z.size := by simp [Builtin.zeroCells]

theorem zero_ins_node (w : World) : (zeroValue 41).run Tryz.prog w = .ok (.agg #[.int .i64 0, .slice none 0 0, .slice none 0 0]) w := by
  obtain ⟨i0, h2, h3, h4, h5⟩ := info_parts infoNode
  simp [zeroValue, typeInfo, h2, h3]
theorem size_ins_node (w : World) : (sizeOf 41).run Tryz.prog w = .ok 3 w := by
  obtain ⟨i0, h2, h3, h4, h5⟩ := info_parts infoNode
  simp [sizeOf, typeInfo, h2, h4]

set_option maxHeartbeats 4000000 in
set_option maxRecDepth 100000 in
theorem ins_node_room (b cap n i : Nat) (xs : List Nd) (x : Nd) (vb : Nat) (w : World) (h : RowAt w b 41 3 n cap (xs.flatMap Nd.cs)) (hxn : xs.length = n) (hx : Blk w vb 41 #[.int .i64 x.id, .slice x.la x.ln x.lc, .slice x.pa x.pn x.pc]) (hne : vb ≠ b) (hi : i < n) (hroom : n + 1 ≤ cap) :
    Calls Tryz.prog 83 #[.slice (some ⟨b, 0, none⟩) n cap, .int .i64 i, .slice (some ⟨vb, 0, none⟩) 1 1] w fun e w' => e = .returned (.slice (some ⟨b, 0, none⟩) (n + 1) cap) ∧ RowAt w' b 41 3 (n + 1) cap ((xs.take i ++ x :: xs.drop i).flatMap Nd.cs) ∧ Frame [b] w w' := by
  obtain ⟨cs, hb, hn, hcm, hcs, htk⟩ := h.blk
  obtain ⟨mov, hmov⟩ : ∃ mov, mov = (xs.drop i).flatMap Nd.cs := ⟨_, rfl⟩
  have hml : mov.length = (n - i) * 3 := by rw [hmov, flat_len nd_len, List.length_drop, hxn]
  have hpl : ((xs.take i).flatMap Nd.cs).length = i * 3 := by rw [flat_len nd_len, List.length_take, hxn, Nat.min_eq_left (by omega)]
  have hsplit : xs.flatMap Nd.cs = (xs.take i).flatMap Nd.cs ++ mov := by rw [hmov, ← List.flatMap_append, List.take_append_drop]
  have hread : ∀ j u, mov[j]? = some u → w.drew.cell? ⟨b, i * 3 + j, none⟩ = some u := by
    intro j u hu
    refine h.cell (i := i * 3 + j) ?_
    rw [hsplit, List.getElem?_append_right (by omega), hpl, Nat.add_sub_cancel_left]
    exact hu
  have hone : ∀ u ∈ mov, u.oneCell' = true := by
    intro u hu
    rw [hmov] at hu
    obtain ⟨y, _, hy⟩ := List.mem_flatMap.1 hu
    exact nd_one y u hy
  have hmul : i * 3 + 3 + (n - i) * 3 ≤ cap * 3 := by
    have h1 : i * 3 + 3 + (n - i) * 3 = (i + 1 + (n - i)) * 3 := by rw [Nat.add_mul, Nat.add_mul, Nat.one_mul]
    rw [h1]; exact Nat.mul_le_mul_right _ (by omega)
  have hi1 : (i + 1) * 3 = i * 3 + 3 := by rw [Nat.add_mul, Nat.one_mul]
  have hfit : (i + 1) * 3 + mov.length ≤ cs.toList.length := by rw [hml, hi1, Array.length_toList, hcs]; exact hmul
  obtain ⟨W1, hW1⟩ : ∃ W1, W1 = w.drew.setCells b ((i + 1) * 3) mov := ⟨_, rfl⟩
  have hsz : (Tryz.prog.info? 41).map (·.size) = some 3 := by
    obtain ⟨i0, g2, g3, g4, g5⟩ := info_parts infoNode
    rw [g2]; simp [g4]
  have hb1 : Blk W1 b 41 (over cs.toList ((i + 1) * 3) mov).toArray := by rw [hW1]; exact Blk.setCells hb.drew (by rw [hml, hi1, hcs]; exact hmul)
  have hx1 : Blk W1 vb 41 #[.int .i64 x.id, .slice x.la x.ln x.lc, .slice x.pa x.pn x.pc] := by rw [hW1]; exact hx.drew.frame (Frame.setCells _ _ _ _) (by simpa using hne)
  have hcp1 : ∀ ty dc sc, (Builtin.copy_ #[22, 22] ty #[.slice (some ⟨b, (i + 1) * 3, none⟩) (n - i) dc, .slice (some ⟨b, i * 3, none⟩) (n + 1 - i) sc]).run Tryz.prog w.drew = .ok (goInt (n - i : Nat)) W1 := fun ty dc sc => by
    rw [hW1]
    have q := run_copy_k w.drew 22 22 ty 41 b ((i + 1) * 3) (n - i) dc ⟨b, i * 3, none⟩ (n + 1 - i) sc (n - i) 3 mov Tryz.underlying22 hsz (by simp only [Nat.min_def]; split <;> omega) hml
      (fun j v hj => by rw [Addr.add_lit]; simpa using hread j v hj) (fun j hj => hb.drew.isSome (by rw [hcs]; omega)) (fun j hj => hb.drew.frozen _) hone
    exact q
  have hcp2 : ∀ ty dc, (Builtin.copy_ #[22, 22] ty #[.slice (some ⟨b, i * 3, none⟩) (n + 1 - i) dc, .slice (some ⟨vb, 0, none⟩) 1 1]).run Tryz.prog W1 = .ok (goInt (1 : Nat)) (W1.setCells b (i * 3) (Nd.cs x)) := fun ty dc => by
    have q := run_copy_k W1 22 22 ty 41 b (i * 3) (n + 1 - i) dc ⟨vb, 0, none⟩ 1 1 1 3 (Nd.cs x) Tryz.underlying22 hsz (by simp only [Nat.min_def]; split <;> omega) (nd_len x)
      (fun j v hj => World.news_of_block hx1 j v (by simpa [Nd.cs] using hj)) (fun j hj => hb1.isSome (by rw [List.size_toArray, over_len hfit, Array.length_toList, hcs]; rw [nd_len] at hj; omega)) (fun j hj => hb1.frozen _) (nd_one x)
    exact q
  have hov : ∀ off lb cb, (callFunc 106 #[.slice (some ⟨vb, 0, none⟩) 1 1, .slice (some ⟨b, off, none⟩) lb cb]).run Tryz.prog w = .ok (.value (.bool false)) w := fun off lb cb => by
    rw [run_callFunc_extern Tryz.func106 (by kernel_rfl) (by kernel_rfl) (by kernel_rfl) (e := Extern.SlicesOverlaps.overlaps #[22, 22] #[4]) (by kernel_rfl),
      Lib.run_overlaps_apart w 22 4 41 Tryz.underlying22 3 size_ins_node ⟨vb, 0, none⟩ ⟨b, off, none⟩ 1 1 lb cb hne 41 41 3 cs.size (by unfold Blk at hx; simp [World.shape?, hx]) (by unfold Blk at hb; simp [World.shape?, hb]) (by rw [hcs]; have := Nat.mul_le_mul_right 3 (show 1 ≤ cap by omega); omega) (hx.frozen _) (hx.frozen _)]
    rfl
  have hfin : RowAt (W1.setCells b (i * 3) (Nd.cs x)) b 41 3 (n + 1) cap ((xs.take i ++ x :: xs.drop i).flatMap Nd.cs) := by
    have hL : (over cs.toList ((i + 1) * 3) mov).length = cap * 3 := by rw [over_len hfit, Array.length_toList, hcs]
    have hbe := Blk.setCells (vs := Nd.cs x) (o := i * 3) hb1 (by rw [List.size_toArray, hL, nd_len]; omega)
    refine RowAt.of_blk hbe (by omega) hcm (by rw [List.size_toArray, over_len (by rw [List.toList_toArray, hL, nd_len]; omega), List.toList_toArray, hL]) ?_
    have hq : (n + 1) * 3 = i * 3 + 3 + (n - i) * 3 := by rw [show n + 1 = i + 1 + (n - i) by omega, Nat.add_mul, Nat.add_mul, Nat.one_mul]
    have hq2 : n * 3 = i * 3 + (n - i) * 3 := by rw [← Nat.add_mul]; congr 1; omega
    simp only [List.toList_toArray]
    rw [hq, hi1]
    have := over_two (cs := cs.toList) (c := 0) (r := 0) (pre := (xs.take i).flatMap Nd.cs) (mid := mov) (new := Nd.cs x) hpl (nd_len x) hml (by rw [← hq2, htk, hsplit]) (by rw [Array.length_toList, hcs]; exact hmul)
    rw [this, hmov]
    simp [List.flatMap_append]
  have hfr : Frame [b] w (W1.setCells b (i * 3) (Nd.cs x)) := by rw [hW1]; exact ((Frame.drew _ _).trans1 (Frame.setCells _ _ _ _)).trans1 (Frame.setCells _ _ _ _)
  have FIN := Lib.hid (And.intro hfin hfr)
  have CP1 := Lib.hid hcp1
  have CP2 := Lib.hid hcp2
  have hw1 : IntKind.i64.wrap ((i : Int) + 1) = (i : Int) + 1 := by rw [IntKind.wrap_i64]; unfold maxLen at hcm; omega
  have hb1' : (0 : Int) ≤ (i : Int) + 1 := by omega
  have hin : i ≤ n := by omega
  have htn : ((i : Int) + 1).toNat = i + 1 := by omega
  have hb2 : ¬ (cap = i + 1) := by omega
  have hb3 : (i : Int) ≤ (n : Int) + 1 := by omega
  have hb4 : ¬ (cap = i) := by omega
  have hz2 : ¬ ((i : Int) = (n : Int)) := by omega
  unfold maxLen at hcm
  clear hfit hcp1 hcp2 hfin hfr hsplit hread hone hmul hi1 hb1 hx1 htk hcs hb h hx hW1 hml hpl hmov hxn hsz
  go_enter Tryz.func83, Tryz.ntmps83
  go_wp2_with (simp only [hov])
  go_region_law (refine step_copy_run (by rfl) (.tmp 73) (.tmp 76) 22 22 (by rfl) (.slice (some ⟨b, (i + 1) * 3, none⟩) (n - i) (cap - (i + 1))) (.slice (some ⟨b, i * 3, none⟩) (n + 1 - i) (cap - i)) (by simp [Act.eval, Act.put]) (by simp [Act.eval, Act.put]) (CP1.out _ _ _) ?_)
  go_wp2_with (refine wpList_copy_run _ (by rfl) (.tmp 80) (.tmp 81) 22 22 (by rfl) (.slice (some ⟨b, i * 3, none⟩) (n + 1 - i) (cap - i)) (.slice (some ⟨vb, 0, none⟩) 1 1) (by rfl) (by rfl) (CP2.out _ _) ?_)
  go_ret
  exact ⟨rfl, FIN.out.1, FIN.out.2⟩

set_option maxHeartbeats 4000000 in
set_option maxRecDepth 100000 in
theorem ins_node_grow (b n i : Nat) (xs : List Nd) (x : Nd) (vb : Nat) (w : World) (h : RowAt w b 41 3 n n (xs.flatMap Nd.cs)) (hxn : xs.length = n) (hx : Blk w vb 41 #[.int .i64 x.id, .slice x.la x.ln x.lc, .slice x.pa x.pn x.pc]) (hi : i < n) (hsm : n ≤ 1000000) :
    Calls Tryz.prog 83 #[.slice (some ⟨b, 0, none⟩) n n, .int .i64 i, .slice (some ⟨vb, 0, none⟩) 1 1] w fun e w' => ∃ cap', e = .returned (.slice (some ⟨w.heap.size, 0, none⟩) (n + 1) cap') ∧ RowAt w' w.heap.size 41 3 (n + 1) cap' ((xs.take i ++ x :: xs.drop i).flatMap Nd.cs) ∧ Frame [] w w' := by
  obtain ⟨mov, hmov⟩ : ∃ mov, mov = (xs.drop i).flatMap Nd.cs := ⟨_, rfl⟩
  obtain ⟨pre, hpre⟩ : ∃ pre, pre = (xs.take i).flatMap Nd.cs := ⟨_, rfl⟩
  have hml : mov.length = (n - i) * 3 := by rw [hmov, flat_len nd_len, List.length_drop, hxn]
  have hpl : pre.length = i * 3 := by rw [hpre, flat_len nd_len, List.length_take, hxn, Nat.min_eq_left (by omega)]
  have hsplit : xs.flatMap Nd.cs = pre ++ mov := by rw [hmov, hpre, ← List.flatMap_append, List.take_append_drop]
  have hone : ∀ u ∈ mov, u.oneCell' = true := by
    intro u hu
    rw [hmov] at hu
    obtain ⟨y, _, hy⟩ := List.mem_flatMap.1 hu
    exact nd_one y u hy
  obtain ⟨i0, hi0, hz0, hzs, hzb⟩ := info_parts infoNode
  have hsz : (Tryz.prog.info? 41).map (·.size) = some 3 := by rw [hi0]; simp [hzs]
  have hold : (Builtin.firstCells i0.size i (.slice (some ⟨b, 0, none⟩) i n)).run Tryz.prog w.drew = .ok pre.toArray w.drew := by
    rw [hzs]
    exact run_firstCells_some w.drew 3 i ⟨b, 0, none⟩ i n pre hpl (fun j v hj => by
      rw [Addr.add_lit, Nat.zero_add]
      refine h.drew.cell ?_
      rw [hsplit, List.getElem?_append_left (List.getElem?_eq_some_iff.1 hj).1]
      exact hj)
  obtain ⟨G, hG⟩ : ∃ G, G = grownCap w (n + 1) n 41 := ⟨_, rfl⟩
  have hGn : n + 1 ≤ G := by rw [hG]; exact grownCap_ge w _ _ _
  have hG63 : G ≤ maxLen := by rw [hG]; exact grownCap_le_maxLen w (n + 1) n 41 (by unfold maxLen; omega)
  obtain ⟨ROW, hROW⟩ : ∃ ROW : Array Value, ROW = pre.toArray ++ Builtin.zeroCells (.agg #[.int .i64 0, .slice none 0 0, .slice none 0 0] : Value).cells (n + 1 - i) ++ Builtin.zeroCells (.agg #[.int .i64 0, .slice none 0 0, .slice none 0 0] : Value).cells (G - (n + 1)) := ⟨_, rfl⟩
  have hzz : (.agg #[.int .i64 0, .slice none 0 0, .slice none 0 0] : Value).cells.size = 3 := by kernel_rfl
  have hRl : ROW.size = G * 3 := by
    rw [hROW, Array.size_append, Array.size_append, zeroCells_size, zeroCells_size, hzz, List.size_toArray, hpl, ← Nat.add_mul, ← Nat.add_mul]; congr 1; omega
  have hRp : ROW.toList.take (i * 3) = pre := by
    rw [hROW]
    simp only [Array.toList_append, List.append_assoc]
    rw [List.take_append_of_le_length (by simp [hpl]), List.take_of_length_le (by simp [hpl])]
  obtain ⟨W1, hW1⟩ : ∃ W1, W1 = (w.alloc (.cells ROW 41)).drew := ⟨_, rfl⟩
  have hrz : ∀ ty, (Builtin.append_ #[22, 3] ty #[.slice (some ⟨b, 0, none⟩) i n, .int .i64 ((n : Int) + 1 - (i : Int))]).run Tryz.prog w = .ok (.slice (some ⟨w.heap.size, 0, none⟩) (n + 1) G) W1 := fun ty => by
    have q := Lib.run_append_grow_zeros w 22 3 ty 41 i0 _ .i64 .i64 Tryz.underlying22 Tryz.underlying3 hi0 hz0 (some ⟨b, 0, none⟩) i n pre hold (n + 1 - i) (by omega) (by omega) (by omega) (by omega) (by rw [hzb]; omega) (by rw [hzb, show i + (n + 1 - i) = n + 1 by omega]; exact growslice_fits (by omega) (by omega))
    rw [show i + (n + 1 - i) = n + 1 by omega, ← hG, ← hROW] at q
    rw [show (n : Int) + 1 - (i : Int) = ((n + 1 - i : Nat) : Int) by omega, hW1]
    exact q
  have hH : w.heap.size < W1.heap.size := by rw [hW1]; simp
  have hbN : Blk W1 w.heap.size 41 ROW := by rw [hW1]; exact (Blk.new w _ _).drew
  have hold1 : RowAt W1 b 41 3 n n (xs.flatMap Nd.cs) := by rw [hW1]; exact (h.alloc _).drew
  have hx1 : Blk W1 vb 41 #[.int .i64 x.id, .slice x.la x.ln x.lc, .slice x.pa x.pn x.pc] := by rw [hW1]; exact (hx.alloc _).drew
  have hbw : b ≠ w.heap.size := by have := h.lt; omega
  have hq : (n + 1) * 3 = i * 3 + 3 + (n - i) * 3 := by rw [show n + 1 = i + 1 + (n - i) by omega, Nat.add_mul, Nat.add_mul, Nat.one_mul]
  have hmul : i * 3 + 3 + (n - i) * 3 ≤ ROW.toList.length := by rw [← hq, Array.length_toList, hRl]; exact Nat.mul_le_mul_right _ hGn
  have hi1 : (i + 1) * 3 = i * 3 + 3 := by rw [Nat.add_mul, Nat.one_mul]
  have hfit1 : i * 3 + (Nd.cs x).length ≤ ROW.toList.length := by rw [nd_len]; omega
  obtain ⟨W2, hW2⟩ : ∃ W2, W2 = W1.setCells w.heap.size (i * 3) (Nd.cs x) := ⟨_, rfl⟩
  have hcpA : ∀ ty dc, (Builtin.copy_ #[22, 22] ty #[.slice (some ⟨w.heap.size, i * 3, none⟩) (n + 1 - i) dc, .slice (some ⟨vb, 0, none⟩) 1 1]).run Tryz.prog W1 = .ok (goInt (1 : Nat)) W2 := fun ty dc => by
    rw [hW2]
    have q := run_copy_k W1 22 22 ty 41 w.heap.size (i * 3) (n + 1 - i) dc ⟨vb, 0, none⟩ 1 1 1 3 (Nd.cs x) Tryz.underlying22 hsz (by simp only [Nat.min_def]; split <;> omega) (nd_len x)
      (fun j v hj => World.news_of_block hx1 j v (by simpa [Nd.cs] using hj)) (fun j hj => hbN.isSome (by have h2 := hfit1; rw [show ROW.toList.length = ROW.size from Array.length_toList] at h2; exact Nat.lt_of_lt_of_le (Nat.add_lt_add_left hj _) h2)) (fun j hj => hbN.frozen _) (nd_one x)
    exact q
  have hb2 : Blk W2 w.heap.size 41 (over ROW.toList (i * 3) (Nd.cs x)).toArray := by rw [hW2]; exact Blk.setCells hbN hfit1
  have hold2 : RowAt W2 b 41 3 n n (xs.flatMap Nd.cs) := by rw [hW2]; exact hold1.frame (Frame.setCells _ _ _ _) (by simpa using hbw)
  have hfit2 : (i + 1) * 3 + mov.length ≤ (over ROW.toList (i * 3) (Nd.cs x)).length := by rw [over_len hfit1, hml, hi1]; exact hmul
  have hcpB : ∀ ty dc sc, (Builtin.copy_ #[22, 22] ty #[.slice (some ⟨w.heap.size, (i + 1) * 3, none⟩) (n - i) dc, .slice (some ⟨b, i * 3, none⟩) (n - i) sc]).run Tryz.prog W2.drew = .ok (goInt (n - i : Nat)) (W2.drew.setCells w.heap.size ((i + 1) * 3) mov) := fun ty dc sc => by
    have q := run_copy_k W2.drew 22 22 ty 41 w.heap.size ((i + 1) * 3) (n - i) dc ⟨b, i * 3, none⟩ (n - i) sc (n - i) 3 mov Tryz.underlying22 hsz (by simp only [Nat.min_def]; split <;> omega) hml
      (fun j v hj => by
        rw [Addr.add_lit]
        refine hold2.drew.cell ?_
        rw [hsplit, List.getElem?_append_right (by omega), hpl, Nat.add_sub_cancel_left]
        exact hj) (fun j hj => hb2.drew.isSome (by rw [List.size_toArray]; omega)) (fun j hj => hb2.drew.frozen _) hone
    exact q
  have hfin : RowAt (W2.drew.setCells w.heap.size ((i + 1) * 3) mov) w.heap.size 41 3 (n + 1) G ((xs.take i ++ x :: xs.drop i).flatMap Nd.cs) := by
    have hbe := Blk.setCells (vs := mov) (o := (i + 1) * 3) hb2.drew (by rw [List.size_toArray]; omega)
    refine RowAt.of_blk hbe hGn hG63 (by rw [List.size_toArray, over_len (by rw [List.toList_toArray]; omega), List.toList_toArray, over_len hfit1, Array.length_toList, hRl]) ?_
    simp only [List.toList_toArray]
    rw [hq]
    have := over_seq (cs := ROW.toList) (mid := mov) (new := Nd.cs x) (nd_len x) hml hpl hRp hmul
    rw [hi1, this, hmov, hpre]
    simp [List.flatMap_append]
  have hfr : Frame [] w (W2.drew.setCells w.heap.size ((i + 1) * 3) mov) := by
    have g1 : Frame [] w W1 := by rw [hW1]; exact (Frame.alloc _ _ _).trans1 (Frame.drew _ _)
    have g2 : Frame [w.heap.size] W1 W2 := by rw [hW2]; exact Frame.setCells _ _ _ _
    exact g1.trans ((g2.trans1 (Frame.drew _ _)).trans1 (Frame.setCells _ _ _ _)) (by simp)
  have FIN := Lib.hid (And.intro hfin hfr)
  have CPA := Lib.hid hcpA
  have CPB := Lib.hid hcpB
  have RZ := Lib.hid hrz
  have hw1 : IntKind.i64.wrap ((i : Int) + 1) = (i : Int) + 1 := by rw [IntKind.wrap_i64]; omega
  have hb1' : (0 : Int) ≤ (i : Int) + 1 := by omega
  have hin : i ≤ n := by omega
  have htn : ((i : Int) + 1).toNat = i + 1 := by omega
  have hb3 : (i : Int) ≤ (n : Int) + 1 := by omega
  have hb4 : ¬ (n = i) := by omega
  have hG1 : ¬ (G = i) := by omega
  have hG2 : ¬ (G = i + 1) := by omega
  have hz2 : ¬ ((i : Int) = (n : Int)) := by omega
  unfold maxLen at hG63
  clear hcpA hcpB hrz hfin hfr hsplit hone hmul hi1 hb2 hbN hx1 hold1 hold2 hold hfit1 hfit2 hq h hx hW1 hW2 hml hpl hmov hpre hxn hsz hRl hRp hROW hzz hG hi0 hz0 hzs hzb hbw
  go_enter Tryz.func83, Tryz.ntmps83
  go_wp2_with (first
    | (at_builtin; refine Lib.wpList_append_run _ rfl (.tmp 34) (.tmp 39) 22 3 rfl _ _ rfl rfl _ _ (RZ.out _) ?_)
    | (refine wpList_copy_run _ (by rfl) (.tmp 43) (.tmp 44) 22 22 (by rfl) (.slice (some ⟨w.heap.size, i * 3, none⟩) (n + 1 - i) (G - i)) (.slice (some ⟨vb, 0, none⟩) 1 1) (by rfl) (by rfl) (CPA.out _ _) ?_))
  go_region_law (refine step_copy_run (by rfl) (.tmp 50) (.tmp 53) 22 22 (by rfl) (.slice (some ⟨w.heap.size, (i + 1) * 3, none⟩) (n - i) (G - (i + 1))) (.slice (some ⟨b, i * 3, none⟩) (n - i) (n - i)) (by simp [Act.eval, Act.put]) (by simp [Act.eval, Act.put]) (CPB.out _ _ _) ?_)
  go_wp2_with fail
  go_ret
  exact ⟨_, rfl, FIN.out.1, FIN.out.2⟩

set_option maxRecDepth 100000 in
theorem ins_node_end (v : Value) (xs : List Nd) (x : Nd) (G : List Nat) (vb : Nat) (w : World) (h : Sl w 41 3 Nd.cs v xs G) (hx : Blk w vb 41 #[.int .i64 x.id, .slice x.la x.ln x.lc, .slice x.pa x.pn x.pc]) (hn : xs.length ≤ 1000000) :
    Calls Tryz.prog 83 #[v, .int .i64 xs.length, .slice (some ⟨vb, 0, none⟩) 1 1] w fun e w' => ∃ b' cap', e = .returned (.slice (some ⟨b', 0, none⟩) (xs.length + 1) cap') ∧ Sl w' 41 3 Nd.cs (.slice (some ⟨b', 0, none⟩) (xs.length + 1) cap') (xs ++ [x]) [b'] ∧ Frame G w w' ∧ (b' ∈ G ∨ b' = w.heap.size) := by
  have B := Lib.hid hx
  clear hx
  rcases id h with ⟨rfl, rfl, rfl⟩ | ⟨b, cap, rfl, rfl, hr⟩
  · have S := Lib.hid h
    clear h
    simp only [List.length_nil, Nat.zero_add, List.nil_append]
    go_enter Tryz.func83, Tryz.ntmps83
    go_wp2_with (at_builtin; refine wpList_append_sl _ rfl (.tmp 23) (.tmp 24) 22 rfl 41 3 56 _ Nd.cs Tryz.underlying22 infoNode rfl (by omega) (.slice none 0 0) [] [] rfl S.out vb 1 1 [x] _ rfl B.out rfl rfl nd_len nd_one (by omega) (by first | omega | (simp; done)) (by omega) ?_; intro b' cap' w4 sl4 f4 hb4)
    all_goals (go_ret; exact ⟨_, _, rfl, by simpa using sl4, f4, by simpa using hb4⟩)
  · have S := Lib.hid h
    obtain ⟨_, _, hnc, _⟩ := hr.blk
    clear h hr
    go_enter Tryz.func83, Tryz.ntmps83
    go_wp2_with (at_builtin; refine wpList_append_sl _ rfl (.tmp 23) (.tmp 24) 22 rfl 41 3 56 _ Nd.cs Tryz.underlying22 infoNode rfl (by omega) (.slice (some ⟨b, 0, none⟩) xs.length cap) xs [b] rfl S.out vb 1 1 [x] _ rfl B.out rfl rfl nd_len nd_one (by omega) (by first | omega | (simp; done)) (by omega) ?_; intro b' cap' w4 sl4 f4 hb4)
    all_goals (go_ret; exact ⟨_, _, rfl, by simpa using sl4, f4, by simpa using hb4⟩)

theorem ins_node_any (v : Value) (xs : List Nd) (x : Nd) (G : List Nat) (vb i : Nat) (w : World) (h : Sl w 41 3 Nd.cs v xs G) (hx : Blk w vb 41 #[.int .i64 x.id, .slice x.la x.ln x.lc, .slice x.pa x.pn x.pc]) (hvb : vb ∉ G) (hn : xs.length ≤ 1000000) (hi : i ≤ xs.length) :
    Calls Tryz.prog 83 #[v, .int .i64 i, .slice (some ⟨vb, 0, none⟩) 1 1] w fun e w' => ∃ b' cap', e = .returned (.slice (some ⟨b', 0, none⟩) (xs.length + 1) cap') ∧ Sl w' 41 3 Nd.cs (.slice (some ⟨b', 0, none⟩) (xs.length + 1) cap') (xs.take i ++ x :: xs.drop i) [b'] ∧ Frame G w w' ∧ (b' ∈ G ∨ b' = w.heap.size) := by
  rcases Nat.lt_or_ge i xs.length with hlt | hge
  · have hl : (xs.take i ++ x :: xs.drop i).length = xs.length + 1 := by simp; omega
    rcases id h with ⟨rfl, rfl, rfl⟩ | ⟨b, cap, rfl, rfl, hr⟩
    · simp at hlt
    · obtain ⟨cs, hb, hnc, _⟩ := hr.blk
      rcases Nat.lt_or_ge xs.length cap with hc | hc
      · refine (ins_node_room b cap xs.length i xs x vb w hr rfl hx (by simpa using hvb) hlt hc).mono ?_
        rintro e w' ⟨rfl, h1, h2⟩
        exact ⟨b, cap, rfl, .inr ⟨b, cap, by rw [hl], rfl, by rw [hl]; exact h1⟩, h2, .inl (by simp)⟩
      · obtain rfl : cap = xs.length := by omega
        refine (ins_node_grow b xs.length i xs x vb w hr rfl hx hlt hn).mono ?_
        rintro e w' ⟨cap', rfl, h1, h2⟩
        exact ⟨w.heap.size, cap', rfl, .inr ⟨w.heap.size, cap', by rw [hl], rfl, by rw [hl]; exact h1⟩, h2.mono (by simp), .inr rfl⟩
  · obtain rfl : i = xs.length := by omega
    rw [List.take_of_length_le (Nat.le_refl _), List.drop_of_length_le (Nat.le_refl _)]
    exact ins_node_end v xs x G vb w h hx hn

theorem zero_ins_str (w : World) : (zeroValue 9).run Tryz.prog w = .ok (.string ⟨#[]⟩) w := by
  obtain ⟨i0, h2, h3, h4, h5⟩ := info_parts infoStr
  simp [zeroValue, typeInfo, h2, h3]
theorem size_ins_str (w : World) : (sizeOf 9).run Tryz.prog w = .ok 1 w := by
  obtain ⟨i0, h2, h3, h4, h5⟩ := info_parts infoStr
  simp [sizeOf, typeInfo, h2, h4]

set_option maxHeartbeats 4000000 in
set_option maxRecDepth 100000 in
theorem ins_str_room (b cap n i : Nat) (xs : List ByteArray) (x : ByteArray) (vb : Nat) (w : World) (h : RowAt w b 9 1 n cap (xs.flatMap encS)) (hxn : xs.length = n) (hx : Blk w vb 9 #[.string x]) (hne : vb ≠ b) (hi : i < n) (hroom : n + 1 ≤ cap) :
    Calls Tryz.prog 55 #[.slice (some ⟨b, 0, none⟩) n cap, .int .i64 i, .slice (some ⟨vb, 0, none⟩) 1 1] w fun e w' => e = .returned (.slice (some ⟨b, 0, none⟩) (n + 1) cap) ∧ RowAt w' b 9 1 (n + 1) cap ((xs.take i ++ x :: xs.drop i).flatMap encS) ∧ Frame [b] w w' := by
  obtain ⟨cs, hb, hn, hcm, hcs, htk⟩ := h.blk
  obtain ⟨mov, hmov⟩ : ∃ mov, mov = (xs.drop i).flatMap encS := ⟨_, rfl⟩
  have hml : mov.length = (n - i) * 1 := by rw [hmov, flat_len encS_len, List.length_drop, hxn]
  have hpl : ((xs.take i).flatMap encS).length = i * 1 := by rw [flat_len encS_len, List.length_take, hxn, Nat.min_eq_left (by omega)]
  have hsplit : xs.flatMap encS = (xs.take i).flatMap encS ++ mov := by rw [hmov, ← List.flatMap_append, List.take_append_drop]
  have hread : ∀ j u, mov[j]? = some u → w.drew.cell? ⟨b, i * 1 + j, none⟩ = some u := by
    intro j u hu
    refine h.cell (i := i * 1 + j) ?_
    rw [hsplit, List.getElem?_append_right (by omega), hpl, Nat.add_sub_cancel_left]
    exact hu
  have hone : ∀ u ∈ mov, u.oneCell' = true := by
    intro u hu
    rw [hmov] at hu
    obtain ⟨y, _, hy⟩ := List.mem_flatMap.1 hu
    exact encS_one y u hy
  have hmul : i * 1 + 1 + (n - i) * 1 ≤ cap * 1 := by
    have h1 : i * 1 + 1 + (n - i) * 1 = (i + 1 + (n - i)) * 1 := by rw [Nat.add_mul, Nat.add_mul, Nat.one_mul]
    rw [h1]; exact Nat.mul_le_mul_right _ (by omega)
  have hi1 : (i + 1) * 1 = i * 1 + 1 := by rw [Nat.add_mul, Nat.one_mul]
  have hfit : (i + 1) * 1 + mov.length ≤ cs.toList.length := by rw [hml, hi1, Array.length_toList, hcs]; exact hmul
  obtain ⟨W1, hW1⟩ : ∃ W1, W1 = w.drew.setCells b ((i + 1) * 1) mov := ⟨_, rfl⟩
  have hsz : (Tryz.prog.info? 9).map (·.size) = some 1 := by
    obtain ⟨i0, g2, g3, g4, g5⟩ := info_parts infoStr
    rw [g2]; simp [g4]
  have hb1 : Blk W1 b 9 (over cs.toList ((i + 1) * 1) mov).toArray := by rw [hW1]; exact Blk.setCells hb.drew (by rw [hml, hi1, hcs]; exact hmul)
  have hx1 : Blk W1 vb 9 #[.string x] := by rw [hW1]; exact hx.drew.frame (Frame.setCells _ _ _ _) (by simpa using hne)
  have hcp1 : ∀ ty dc sc, (Builtin.copy_ #[38, 38] ty #[.slice (some ⟨b, i + 1, none⟩) (n - i) dc, .slice (some ⟨b, i, none⟩) (n + 1 - i) sc]).run Tryz.prog w.drew = .ok (goInt (n - i : Nat)) W1 := fun ty dc sc => by
    rw [hW1]
    have q := run_copy_k w.drew 38 38 ty 9 b ((i + 1) * 1) (n - i) dc ⟨b, i * 1, none⟩ (n + 1 - i) sc (n - i) 1 mov Tryz.underlying38 hsz (by simp only [Nat.min_def]; split <;> omega) hml
      (fun j v hj => by rw [Addr.add_lit]; simpa using hread j v hj) (fun j hj => hb.drew.isSome (by rw [hcs]; omega)) (fun j hj => hb.drew.frozen _) hone
    simp only [Nat.mul_one] at q ⊢; exact q
  have hcp2 : ∀ ty dc, (Builtin.copy_ #[38, 38] ty #[.slice (some ⟨b, i, none⟩) (n + 1 - i) dc, .slice (some ⟨vb, 0, none⟩) 1 1]).run Tryz.prog W1 = .ok (goInt (1 : Nat)) (W1.setCells b (i) (encS x)) := fun ty dc => by
    have q := run_copy_k W1 38 38 ty 9 b (i * 1) (n + 1 - i) dc ⟨vb, 0, none⟩ 1 1 1 1 (encS x) Tryz.underlying38 hsz (by simp only [Nat.min_def]; split <;> omega) (encS_len x)
      (fun j v hj => World.news_of_block hx1 j v (by simpa [encS] using hj)) (fun j hj => hb1.isSome (by rw [List.size_toArray, over_len hfit, Array.length_toList, hcs]; rw [encS_len] at hj; omega)) (fun j hj => hb1.frozen _) (encS_one x)
    simp only [Nat.mul_one] at q ⊢; exact q
  have hov : ∀ off lb cb, (callFunc 81 #[.slice (some ⟨vb, 0, none⟩) 1 1, .slice (some ⟨b, off, none⟩) lb cb]).run Tryz.prog w = .ok (.value (.bool false)) w := fun off lb cb => by
    rw [run_callFunc_extern Tryz.func81 (by kernel_rfl) (by kernel_rfl) (by kernel_rfl) (e := Extern.SlicesOverlaps.overlaps #[38, 38] #[4]) (by kernel_rfl),
      Lib.run_overlaps_apart w 38 4 9 Tryz.underlying38 1 size_ins_str ⟨vb, 0, none⟩ ⟨b, off, none⟩ 1 1 lb cb hne 9 9 1 cs.size (by unfold Blk at hx; simp [World.shape?, hx]) (by unfold Blk at hb; simp [World.shape?, hb]) (by rw [hcs]; have := Nat.mul_le_mul_right 1 (show 1 ≤ cap by omega); omega) (hx.frozen _) (hx.frozen _)]
    rfl
  have hfin : RowAt (W1.setCells b (i) (encS x)) b 9 1 (n + 1) cap ((xs.take i ++ x :: xs.drop i).flatMap encS) := by
    have hL : (over cs.toList ((i + 1) * 1) mov).length = cap * 1 := by rw [over_len hfit, Array.length_toList, hcs]
    have hbe := Blk.setCells (vs := encS x) (o := i) hb1 (by rw [List.size_toArray, hL, encS_len]; omega)
    refine RowAt.of_blk hbe (by omega) hcm (by rw [List.size_toArray, over_len (by rw [List.toList_toArray, hL, encS_len]; omega), List.toList_toArray, hL]) ?_
    have hq : (n + 1) * 1 = i * 1 + 1 + (n - i) * 1 := by rw [show n + 1 = i + 1 + (n - i) by omega, Nat.add_mul, Nat.add_mul, Nat.one_mul]
    have hq2 : n * 1 = i * 1 + (n - i) * 1 := by rw [← Nat.add_mul]; congr 1; omega
    simp only [List.toList_toArray]
    rw [hq, hi1]
    have := over_two (cs := cs.toList) (c := 0) (r := 0) (pre := (xs.take i).flatMap encS) (mid := mov) (new := encS x) hpl (encS_len x) hml (by rw [← hq2, htk, hsplit]) (by rw [Array.length_toList, hcs]; exact hmul)
    simp only [Nat.mul_one] at this ⊢
    rw [this, hmov]
    simp [List.flatMap_append]
  have hfr : Frame [b] w (W1.setCells b (i) (encS x)) := by rw [hW1]; exact ((Frame.drew _ _).trans1 (Frame.setCells _ _ _ _)).trans1 (Frame.setCells _ _ _ _)
  have FIN := Lib.hid (And.intro hfin hfr)
  have CP1 := Lib.hid hcp1
  have CP2 := Lib.hid hcp2
  have hw1 : IntKind.i64.wrap ((i : Int) + 1) = (i : Int) + 1 := by rw [IntKind.wrap_i64]; unfold maxLen at hcm; omega
  have hb1' : (0 : Int) ≤ (i : Int) + 1 := by omega
  have hin : i ≤ n := by omega
  have htn : ((i : Int) + 1).toNat = i + 1 := by omega
  have hb2 : ¬ (cap = i + 1) := by omega
  have hb3 : (i : Int) ≤ (n : Int) + 1 := by omega
  have hb4 : ¬ (cap = i) := by omega
  have hz2 : ¬ ((i : Int) = (n : Int)) := by omega
  unfold maxLen at hcm
  clear hfit hcp1 hcp2 hfin hfr hsplit hread hone hmul hi1 hb1 hx1 htk hcs hb h hx hW1 hml hpl hmov hxn hsz
  go_enter Tryz.func55, Tryz.ntmps55
  go_wp2_with (simp only [hov])
  go_region_law (refine step_copy_run (by rfl) (.tmp 73) (.tmp 76) 38 38 (by rfl) (.slice (some ⟨b, i + 1, none⟩) (n - i) (cap - (i + 1))) (.slice (some ⟨b, i, none⟩) (n + 1 - i) (cap - i)) (by simp [Act.eval, Act.put]) (by simp [Act.eval, Act.put]) (CP1.out _ _ _) ?_)
  go_wp2_with (refine wpList_copy_run _ (by rfl) (.tmp 80) (.tmp 81) 38 38 (by rfl) (.slice (some ⟨b, i, none⟩) (n + 1 - i) (cap - i)) (.slice (some ⟨vb, 0, none⟩) 1 1) (by rfl) (by rfl) (CP2.out _ _) ?_)
  go_ret
  exact ⟨rfl, FIN.out.1, FIN.out.2⟩

set_option maxHeartbeats 4000000 in
set_option maxRecDepth 100000 in
theorem ins_str_grow (b n i : Nat) (xs : List ByteArray) (x : ByteArray) (vb : Nat) (w : World) (h : RowAt w b 9 1 n n (xs.flatMap encS)) (hxn : xs.length = n) (hx : Blk w vb 9 #[.string x]) (hi : i < n) (hsm : n ≤ 1000000) :
    Calls Tryz.prog 55 #[.slice (some ⟨b, 0, none⟩) n n, .int .i64 i, .slice (some ⟨vb, 0, none⟩) 1 1] w fun e w' => ∃ cap', e = .returned (.slice (some ⟨w.heap.size, 0, none⟩) (n + 1) cap') ∧ RowAt w' w.heap.size 9 1 (n + 1) cap' ((xs.take i ++ x :: xs.drop i).flatMap encS) ∧ Frame [] w w' := by
  obtain ⟨mov, hmov⟩ : ∃ mov, mov = (xs.drop i).flatMap encS := ⟨_, rfl⟩
  obtain ⟨pre, hpre⟩ : ∃ pre, pre = (xs.take i).flatMap encS := ⟨_, rfl⟩
  have hml : mov.length = (n - i) * 1 := by rw [hmov, flat_len encS_len, List.length_drop, hxn]
  have hpl : pre.length = i * 1 := by rw [hpre, flat_len encS_len, List.length_take, hxn, Nat.min_eq_left (by omega)]
  have hsplit : xs.flatMap encS = pre ++ mov := by rw [hmov, hpre, ← List.flatMap_append, List.take_append_drop]
  have hone : ∀ u ∈ mov, u.oneCell' = true := by
    intro u hu
    rw [hmov] at hu
    obtain ⟨y, _, hy⟩ := List.mem_flatMap.1 hu
    exact encS_one y u hy
  obtain ⟨i0, hi0, hz0, hzs, hzb⟩ := info_parts infoStr
  have hsz : (Tryz.prog.info? 9).map (·.size) = some 1 := by rw [hi0]; simp [hzs]
  have hold : (Builtin.firstCells i0.size i (.slice (some ⟨b, 0, none⟩) i n)).run Tryz.prog w.drew = .ok pre.toArray w.drew := by
    rw [hzs]
    exact run_firstCells_some w.drew 1 i ⟨b, 0, none⟩ i n pre hpl (fun j v hj => by
      rw [Addr.add_lit, Nat.zero_add]
      refine h.drew.cell ?_
      rw [hsplit, List.getElem?_append_left (List.getElem?_eq_some_iff.1 hj).1]
      exact hj)
  obtain ⟨G, hG⟩ : ∃ G, G = grownCap w (n + 1) n 9 := ⟨_, rfl⟩
  have hGn : n + 1 ≤ G := by rw [hG]; exact grownCap_ge w _ _ _
  have hG63 : G ≤ maxLen := by rw [hG]; exact grownCap_le_maxLen w (n + 1) n 9 (by unfold maxLen; omega)
  obtain ⟨ROW, hROW⟩ : ∃ ROW : Array Value, ROW = pre.toArray ++ Builtin.zeroCells (.string ⟨#[]⟩ : Value).cells (n + 1 - i) ++ Builtin.zeroCells (.string ⟨#[]⟩ : Value).cells (G - (n + 1)) := ⟨_, rfl⟩
  have hzz : (.string ⟨#[]⟩ : Value).cells.size = 1 := by kernel_rfl
  have hRl : ROW.size = G * 1 := by
    rw [hROW, Array.size_append, Array.size_append, zeroCells_size, zeroCells_size, hzz, List.size_toArray, hpl, ← Nat.add_mul, ← Nat.add_mul]; congr 1; omega
  have hRp : ROW.toList.take (i * 1) = pre := by
    rw [hROW]
    simp only [Array.toList_append, List.append_assoc]
    rw [List.take_append_of_le_length (by simp [hpl]), List.take_of_length_le (by simp [hpl])]
  obtain ⟨W1, hW1⟩ : ∃ W1, W1 = (w.alloc (.cells ROW 9)).drew := ⟨_, rfl⟩
  have hrz : ∀ ty, (Builtin.append_ #[38, 3] ty #[.slice (some ⟨b, 0, none⟩) i n, .int .i64 ((n : Int) + 1 - (i : Int))]).run Tryz.prog w = .ok (.slice (some ⟨w.heap.size, 0, none⟩) (n + 1) G) W1 := fun ty => by
    have q := Lib.run_append_grow_zeros w 38 3 ty 9 i0 _ .i64 .i64 Tryz.underlying38 Tryz.underlying3 hi0 hz0 (some ⟨b, 0, none⟩) i n pre hold (n + 1 - i) (by omega) (by omega) (by omega) (by omega) (by rw [hzb]; omega) (by rw [hzb, show i + (n + 1 - i) = n + 1 by omega]; exact growslice_fits (by omega) (by omega))
    rw [show i + (n + 1 - i) = n + 1 by omega, ← hG, ← hROW] at q
    rw [show (n : Int) + 1 - (i : Int) = ((n + 1 - i : Nat) : Int) by omega, hW1]
    exact q
  have hH : w.heap.size < W1.heap.size := by rw [hW1]; simp
  have hbN : Blk W1 w.heap.size 9 ROW := by rw [hW1]; exact (Blk.new w _ _).drew
  have hold1 : RowAt W1 b 9 1 n n (xs.flatMap encS) := by rw [hW1]; exact (h.alloc _).drew
  have hx1 : Blk W1 vb 9 #[.string x] := by rw [hW1]; exact (hx.alloc _).drew
  have hbw : b ≠ w.heap.size := by have := h.lt; omega
  have hq : (n + 1) * 1 = i * 1 + 1 + (n - i) * 1 := by rw [show n + 1 = i + 1 + (n - i) by omega, Nat.add_mul, Nat.add_mul, Nat.one_mul]
  have hmul : i * 1 + 1 + (n - i) * 1 ≤ ROW.toList.length := by rw [← hq, Array.length_toList, hRl]; exact Nat.mul_le_mul_right _ hGn
  have hi1 : (i + 1) * 1 = i * 1 + 1 := by rw [Nat.add_mul, Nat.one_mul]
  have hfit1 : i * 1 + (encS x).length ≤ ROW.toList.length := by rw [encS_len]; omega
  obtain ⟨W2, hW2⟩ : ∃ W2, W2 = W1.setCells w.heap.size (i * 1) (encS x) := ⟨_, rfl⟩
  have hcpA : ∀ ty dc, (Builtin.copy_ #[38, 38] ty #[.slice (some ⟨w.heap.size, i, none⟩) (n + 1 - i) dc, .slice (some ⟨vb, 0, none⟩) 1 1]).run Tryz.prog W1 = .ok (goInt (1 : Nat)) W2 := fun ty dc => by
    rw [hW2]
    have q := run_copy_k W1 38 38 ty 9 w.heap.size (i * 1) (n + 1 - i) dc ⟨vb, 0, none⟩ 1 1 1 1 (encS x) Tryz.underlying38 hsz (by simp only [Nat.min_def]; split <;> omega) (encS_len x)
      (fun j v hj => World.news_of_block hx1 j v (by simpa [encS] using hj)) (fun j hj => hbN.isSome (by have h2 := hfit1; rw [show ROW.toList.length = ROW.size from Array.length_toList] at h2; exact Nat.lt_of_lt_of_le (Nat.add_lt_add_left hj _) h2)) (fun j hj => hbN.frozen _) (encS_one x)
    simp only [Nat.mul_one] at q ⊢; exact q
  have hb2 : Blk W2 w.heap.size 9 (over ROW.toList (i * 1) (encS x)).toArray := by rw [hW2]; exact Blk.setCells hbN hfit1
  have hold2 : RowAt W2 b 9 1 n n (xs.flatMap encS) := by rw [hW2]; exact hold1.frame (Frame.setCells _ _ _ _) (by simpa using hbw)
  have hfit2 : (i + 1) * 1 + mov.length ≤ (over ROW.toList (i * 1) (encS x)).length := by rw [over_len hfit1, hml, hi1]; exact hmul
  have hcpB : ∀ ty dc sc, (Builtin.copy_ #[38, 38] ty #[.slice (some ⟨w.heap.size, i + 1, none⟩) (n - i) dc, .slice (some ⟨b, i, none⟩) (n - i) sc]).run Tryz.prog W2.drew = .ok (goInt (n - i : Nat)) (W2.drew.setCells w.heap.size (i + 1) mov) := fun ty dc sc => by
    have q := run_copy_k W2.drew 38 38 ty 9 w.heap.size ((i + 1) * 1) (n - i) dc ⟨b, i * 1, none⟩ (n - i) sc (n - i) 1 mov Tryz.underlying38 hsz (by simp only [Nat.min_def]; split <;> omega) hml
      (fun j v hj => by
        rw [Addr.add_lit]
        refine hold2.drew.cell ?_
        rw [hsplit, List.getElem?_append_right (by omega), hpl, Nat.add_sub_cancel_left]
        exact hj) (fun j hj => hb2.drew.isSome (by rw [List.size_toArray]; omega)) (fun j hj => hb2.drew.frozen _) hone
    simp only [Nat.mul_one] at q ⊢; exact q
  have hfin : RowAt (W2.drew.setCells w.heap.size (i + 1) mov) w.heap.size 9 1 (n + 1) G ((xs.take i ++ x :: xs.drop i).flatMap encS) := by
    have hbe := Blk.setCells (vs := mov) (o := i + 1) hb2.drew (by rw [List.size_toArray]; omega)
    refine RowAt.of_blk hbe hGn hG63 (by rw [List.size_toArray, over_len (by rw [List.toList_toArray]; omega), List.toList_toArray, over_len hfit1, Array.length_toList, hRl]) ?_
    simp only [List.toList_toArray]
    rw [hq]
    have := over_seq (cs := ROW.toList) (mid := mov) (new := encS x) (encS_len x) hml hpl hRp hmul
    simp only [Nat.mul_one] at this ⊢
    rw [this, hmov, hpre]
    simp [List.flatMap_append]
  have hfr : Frame [] w (W2.drew.setCells w.heap.size (i + 1) mov) := by
    have g1 : Frame [] w W1 := by rw [hW1]; exact (Frame.alloc _ _ _).trans1 (Frame.drew _ _)
    have g2 : Frame [w.heap.size] W1 W2 := by rw [hW2]; exact Frame.setCells _ _ _ _
    exact g1.trans ((g2.trans1 (Frame.drew _ _)).trans1 (Frame.setCells _ _ _ _)) (by simp)
  have FIN := Lib.hid (And.intro hfin hfr)
  have CPA := Lib.hid hcpA
  have CPB := Lib.hid hcpB
  have RZ := Lib.hid hrz
  have hw1 : IntKind.i64.wrap ((i : Int) + 1) = (i : Int) + 1 := by rw [IntKind.wrap_i64]; omega
  have hb1' : (0 : Int) ≤ (i : Int) + 1 := by omega
  have hin : i ≤ n := by omega
  have htn : ((i : Int) + 1).toNat = i + 1 := by omega
  have hb3 : (i : Int) ≤ (n : Int) + 1 := by omega
  have hb4 : ¬ (n = i) := by omega
  have hG1 : ¬ (G = i) := by omega
  have hG2 : ¬ (G = i + 1) := by omega
  have hz2 : ¬ ((i : Int) = (n : Int)) := by omega
  unfold maxLen at hG63
  clear hcpA hcpB hrz hfin hfr hsplit hone hmul hi1 hb2 hbN hx1 hold1 hold2 hold hfit1 hfit2 hq h hx hW1 hW2 hml hpl hmov hpre hxn hsz hRl hRp hROW hzz hG hi0 hz0 hzs hzb hbw
  go_enter Tryz.func55, Tryz.ntmps55
  go_wp2_with (first
    | (at_builtin; refine Lib.wpList_append_run _ rfl (.tmp 34) (.tmp 39) 38 3 rfl _ _ rfl rfl _ _ (RZ.out _) ?_)
    | (refine wpList_copy_run _ (by rfl) (.tmp 43) (.tmp 44) 38 38 (by rfl) (.slice (some ⟨w.heap.size, i, none⟩) (n + 1 - i) (G - i)) (.slice (some ⟨vb, 0, none⟩) 1 1) (by rfl) (by rfl) (CPA.out _ _) ?_))
  go_region_law (refine step_copy_run (by rfl) (.tmp 50) (.tmp 53) 38 38 (by rfl) (.slice (some ⟨w.heap.size, i + 1, none⟩) (n - i) (G - (i + 1))) (.slice (some ⟨b, i, none⟩) (n - i) (n - i)) (by simp [Act.eval, Act.put]) (by simp [Act.eval, Act.put]) (CPB.out _ _ _) ?_)
  go_wp2_with fail
  go_ret
  exact ⟨_, rfl, FIN.out.1, FIN.out.2⟩

set_option maxRecDepth 100000 in
theorem ins_str_end (v : Value) (xs : List ByteArray) (x : ByteArray) (G : List Nat) (vb : Nat) (w : World) (h : Sl w 9 1 encS v xs G) (hx : Blk w vb 9 #[.string x]) (hn : xs.length ≤ 1000000) :
    Calls Tryz.prog 55 #[v, .int .i64 xs.length, .slice (some ⟨vb, 0, none⟩) 1 1] w fun e w' => ∃ b' cap', e = .returned (.slice (some ⟨b', 0, none⟩) (xs.length + 1) cap') ∧ Sl w' 9 1 encS (.slice (some ⟨b', 0, none⟩) (xs.length + 1) cap') (xs ++ [x]) [b'] ∧ Frame G w w' ∧ (b' ∈ G ∨ b' = w.heap.size) := by
  have B := Lib.hid hx
  clear hx
  rcases id h with ⟨rfl, rfl, rfl⟩ | ⟨b, cap, rfl, rfl, hr⟩
  · have S := Lib.hid h
    clear h
    simp only [List.length_nil, Nat.zero_add, List.nil_append]
    go_enter Tryz.func55, Tryz.ntmps55
    go_wp2_with (at_builtin; refine wpList_append_sl _ rfl (.tmp 23) (.tmp 24) 38 rfl 9 1 16 _ encS Tryz.underlying38 infoStr rfl (by omega) (.slice none 0 0) [] [] rfl S.out vb 1 1 [x] _ rfl B.out rfl rfl encS_len encS_one (by omega) (by first | omega | (simp; done)) (by omega) ?_; intro b' cap' w4 sl4 f4 hb4)
    all_goals (go_ret; exact ⟨_, _, rfl, by simpa using sl4, f4, by simpa using hb4⟩)
  · have S := Lib.hid h
    obtain ⟨_, _, hnc, _⟩ := hr.blk
    clear h hr
    go_enter Tryz.func55, Tryz.ntmps55
    go_wp2_with (at_builtin; refine wpList_append_sl _ rfl (.tmp 23) (.tmp 24) 38 rfl 9 1 16 _ encS Tryz.underlying38 infoStr rfl (by omega) (.slice (some ⟨b, 0, none⟩) xs.length cap) xs [b] rfl S.out vb 1 1 [x] _ rfl B.out rfl rfl encS_len encS_one (by omega) (by first | omega | (simp; done)) (by omega) ?_; intro b' cap' w4 sl4 f4 hb4)
    all_goals (go_ret; exact ⟨_, _, rfl, by simpa using sl4, f4, by simpa using hb4⟩)

theorem ins_str_any (v : Value) (xs : List ByteArray) (x : ByteArray) (G : List Nat) (vb i : Nat) (w : World) (h : Sl w 9 1 encS v xs G) (hx : Blk w vb 9 #[.string x]) (hvb : vb ∉ G) (hn : xs.length ≤ 1000000) (hi : i ≤ xs.length) :
    Calls Tryz.prog 55 #[v, .int .i64 i, .slice (some ⟨vb, 0, none⟩) 1 1] w fun e w' => ∃ b' cap', e = .returned (.slice (some ⟨b', 0, none⟩) (xs.length + 1) cap') ∧ Sl w' 9 1 encS (.slice (some ⟨b', 0, none⟩) (xs.length + 1) cap') (xs.take i ++ x :: xs.drop i) [b'] ∧ Frame G w w' ∧ (b' ∈ G ∨ b' = w.heap.size) := by
  rcases Nat.lt_or_ge i xs.length with hlt | hge
  · have hl : (xs.take i ++ x :: xs.drop i).length = xs.length + 1 := by simp; omega
    rcases id h with ⟨rfl, rfl, rfl⟩ | ⟨b, cap, rfl, rfl, hr⟩
    · simp at hlt
    · obtain ⟨cs, hb, hnc, _⟩ := hr.blk
      rcases Nat.lt_or_ge xs.length cap with hc | hc
      · refine (ins_str_room b cap xs.length i xs x vb w hr rfl hx (by simpa using hvb) hlt hc).mono ?_
        rintro e w' ⟨rfl, h1, h2⟩
        exact ⟨b, cap, rfl, .inr ⟨b, cap, by rw [hl], rfl, by rw [hl]; exact h1⟩, h2, .inl (by simp)⟩
      · obtain rfl : cap = xs.length := by omega
        refine (ins_str_grow b xs.length i xs x vb w hr rfl hx hlt hn).mono ?_
        rintro e w' ⟨cap', rfl, h1, h2⟩
        exact ⟨w.heap.size, cap', rfl, .inr ⟨w.heap.size, cap', by rw [hl], rfl, by rw [hl]; exact h1⟩, h2.mono (by simp), .inr rfl⟩
  · obtain rfl : i = xs.length := by omega
    rw [List.take_of_length_le (Nat.le_refl _), List.drop_of_length_le (Nat.le_refl _)]
    exact ins_str_end v xs x G vb w h hx hn

theorem zero_ins_prop (w : World) : (zeroValue 67).run Tryz.prog w = .ok (.agg #[.string ⟨#[]⟩, .string ⟨#[]⟩]) w := by
  obtain ⟨i0, h2, h3, h4, h5⟩ := info_parts infoProp
  simp [zeroValue, typeInfo, h2, h3]
theorem size_ins_prop (w : World) : (sizeOf 67).run Tryz.prog w = .ok 2 w := by
  obtain ⟨i0, h2, h3, h4, h5⟩ := info_parts infoProp
  simp [sizeOf, typeInfo, h2, h4]

set_option maxHeartbeats 4000000 in
set_option maxRecDepth 100000 in
theorem ins_prop_room (b cap n i : Nat) (xs : List Pr) (x : Pr) (vb : Nat) (w : World) (h : RowAt w b 67 2 n cap (xs.flatMap Pr.cs)) (hxn : xs.length = n) (hx : Blk w vb 67 #[.string x.name, .string x.val]) (hne : vb ≠ b) (hi : i < n) (hroom : n + 1 ≤ cap) :
    Calls Tryz.prog 86 #[.slice (some ⟨b, 0, none⟩) n cap, .int .i64 i, .slice (some ⟨vb, 0, none⟩) 1 1] w fun e w' => e = .returned (.slice (some ⟨b, 0, none⟩) (n + 1) cap) ∧ RowAt w' b 67 2 (n + 1) cap ((xs.take i ++ x :: xs.drop i).flatMap Pr.cs) ∧ Frame [b] w w' := by
  obtain ⟨cs, hb, hn, hcm, hcs, htk⟩ := h.blk
  obtain ⟨mov, hmov⟩ : ∃ mov, mov = (xs.drop i).flatMap Pr.cs := ⟨_, rfl⟩
  have hml : mov.length = (n - i) * 2 := by rw [hmov, flat_len pr_len, List.length_drop, hxn]
  have hpl : ((xs.take i).flatMap Pr.cs).length = i * 2 := by rw [flat_len pr_len, List.length_take, hxn, Nat.min_eq_left (by omega)]
  have hsplit : xs.flatMap Pr.cs = (xs.take i).flatMap Pr.cs ++ mov := by rw [hmov, ← List.flatMap_append, List.take_append_drop]
  have hread : ∀ j u, mov[j]? = some u → w.drew.cell? ⟨b, i * 2 + j, none⟩ = some u := by
    intro j u hu
    refine h.cell (i := i * 2 + j) ?_
    rw [hsplit, List.getElem?_append_right (by omega), hpl, Nat.add_sub_cancel_left]
    exact hu
  have hone : ∀ u ∈ mov, u.oneCell' = true := by
    intro u hu
    rw [hmov] at hu
    obtain ⟨y, _, hy⟩ := List.mem_flatMap.1 hu
    exact pr_one y u hy
  have hmul : i * 2 + 2 + (n - i) * 2 ≤ cap * 2 := by
    have h1 : i * 2 + 2 + (n - i) * 2 = (i + 1 + (n - i)) * 2 := by rw [Nat.add_mul, Nat.add_mul, Nat.one_mul]
    rw [h1]; exact Nat.mul_le_mul_right _ (by omega)
  have hi1 : (i + 1) * 2 = i * 2 + 2 := by rw [Nat.add_mul, Nat.one_mul]
  have hfit : (i + 1) * 2 + mov.length ≤ cs.toList.length := by rw [hml, hi1, Array.length_toList, hcs]; exact hmul
  obtain ⟨W1, hW1⟩ : ∃ W1, W1 = w.drew.setCells b ((i + 1) * 2) mov := ⟨_, rfl⟩
  have hsz : (Tryz.prog.info? 67).map (·.size) = some 2 := by
    obtain ⟨i0, g2, g3, g4, g5⟩ := info_parts infoProp
    rw [g2]; simp [g4]
  have hb1 : Blk W1 b 67 (over cs.toList ((i + 1) * 2) mov).toArray := by rw [hW1]; exact Blk.setCells hb.drew (by rw [hml, hi1, hcs]; exact hmul)
  have hx1 : Blk W1 vb 67 #[.string x.name, .string x.val] := by rw [hW1]; exact hx.drew.frame (Frame.setCells _ _ _ _) (by simpa using hne)
  have hcp1 : ∀ ty dc sc, (Builtin.copy_ #[39, 39] ty #[.slice (some ⟨b, (i + 1) * 2, none⟩) (n - i) dc, .slice (some ⟨b, i * 2, none⟩) (n + 1 - i) sc]).run Tryz.prog w.drew = .ok (goInt (n - i : Nat)) W1 := fun ty dc sc => by
    rw [hW1]
    have q := run_copy_k w.drew 39 39 ty 67 b ((i + 1) * 2) (n - i) dc ⟨b, i * 2, none⟩ (n + 1 - i) sc (n - i) 2 mov Tryz.underlying39 hsz (by simp only [Nat.min_def]; split <;> omega) hml
      (fun j v hj => by rw [Addr.add_lit]; simpa using hread j v hj) (fun j hj => hb.drew.isSome (by rw [hcs]; omega)) (fun j hj => hb.drew.frozen _) hone
    exact q
  have hcp2 : ∀ ty dc, (Builtin.copy_ #[39, 39] ty #[.slice (some ⟨b, i * 2, none⟩) (n + 1 - i) dc, .slice (some ⟨vb, 0, none⟩) 1 1]).run Tryz.prog W1 = .ok (goInt (1 : Nat)) (W1.setCells b (i * 2) (Pr.cs x)) := fun ty dc => by
    have q := run_copy_k W1 39 39 ty 67 b (i * 2) (n + 1 - i) dc ⟨vb, 0, none⟩ 1 1 1 2 (Pr.cs x) Tryz.underlying39 hsz (by simp only [Nat.min_def]; split <;> omega) (pr_len x)
      (fun j v hj => World.news_of_block hx1 j v (by simpa [Pr.cs] using hj)) (fun j hj => hb1.isSome (by rw [List.size_toArray, over_len hfit, Array.length_toList, hcs]; rw [pr_len] at hj; omega)) (fun j hj => hb1.frozen _) (pr_one x)
    exact q
  have hov : ∀ off lb cb, (callFunc 109 #[.slice (some ⟨vb, 0, none⟩) 1 1, .slice (some ⟨b, off, none⟩) lb cb]).run Tryz.prog w = .ok (.value (.bool false)) w := fun off lb cb => by
    rw [run_callFunc_extern Tryz.func109 (by kernel_rfl) (by kernel_rfl) (by kernel_rfl) (e := Extern.SlicesOverlaps.overlaps #[39, 39] #[4]) (by kernel_rfl),
      Lib.run_overlaps_apart w 39 4 67 Tryz.underlying39 2 size_ins_prop ⟨vb, 0, none⟩ ⟨b, off, none⟩ 1 1 lb cb hne 67 67 2 cs.size (by unfold Blk at hx; simp [World.shape?, hx]) (by unfold Blk at hb; simp [World.shape?, hb]) (by rw [hcs]; have := Nat.mul_le_mul_right 2 (show 1 ≤ cap by omega); omega) (hx.frozen _) (hx.frozen _)]
    rfl
  have hfin : RowAt (W1.setCells b (i * 2) (Pr.cs x)) b 67 2 (n + 1) cap ((xs.take i ++ x :: xs.drop i).flatMap Pr.cs) := by
    have hL : (over cs.toList ((i + 1) * 2) mov).length = cap * 2 := by rw [over_len hfit, Array.length_toList, hcs]
    have hbe := Blk.setCells (vs := Pr.cs x) (o := i * 2) hb1 (by rw [List.size_toArray, hL, pr_len]; omega)
    refine RowAt.of_blk hbe (by omega) hcm (by rw [List.size_toArray, over_len (by rw [List.toList_toArray, hL, pr_len]; omega), List.toList_toArray, hL]) ?_
    have hq : (n + 1) * 2 = i * 2 + 2 + (n - i) * 2 := by rw [show n + 1 = i + 1 + (n - i) by omega, Nat.add_mul, Nat.add_mul, Nat.one_mul]
    have hq2 : n * 2 = i * 2 + (n - i) * 2 := by rw [← Nat.add_mul]; congr 1; omega
    simp only [List.toList_toArray]
    rw [hq, hi1]
    have := over_two (cs := cs.toList) (c := 0) (r := 0) (pre := (xs.take i).flatMap Pr.cs) (mid := mov) (new := Pr.cs x) hpl (pr_len x) hml (by rw [← hq2, htk, hsplit]) (by rw [Array.length_toList, hcs]; exact hmul)
    rw [this, hmov]
    simp [List.flatMap_append]
  have hfr : Frame [b] w (W1.setCells b (i * 2) (Pr.cs x)) := by rw [hW1]; exact ((Frame.drew _ _).trans1 (Frame.setCells _ _ _ _)).trans1 (Frame.setCells _ _ _ _)
  have FIN := Lib.hid (And.intro hfin hfr)
  have CP1 := Lib.hid hcp1
  have CP2 := Lib.hid hcp2
  have hw1 : IntKind.i64.wrap ((i : Int) + 1) = (i : Int) + 1 := by rw [IntKind.wrap_i64]; unfold maxLen at hcm; omega
  have hb1' : (0 : Int) ≤ (i : Int) + 1 := by omega
  have hin : i ≤ n := by omega
  have htn : ((i : Int) + 1).toNat = i + 1 := by omega
  have hb2 : ¬ (cap = i + 1) := by omega
  have hb3 : (i : Int) ≤ (n : Int) + 1 := by omega
  have hb4 : ¬ (cap = i) := by omega
  have hz2 : ¬ ((i : Int) = (n : Int)) := by omega
  unfold maxLen at hcm
  clear hfit hcp1 hcp2 hfin hfr hsplit hread hone hmul hi1 hb1 hx1 htk hcs hb h hx hW1 hml hpl hmov hxn hsz
  go_enter Tryz.func86, Tryz.ntmps86
  go_wp2_with (simp only [hov])
  go_region_law (refine step_copy_run (by rfl) (.tmp 73) (.tmp 76) 39 39 (by rfl) (.slice (some ⟨b, (i + 1) * 2, none⟩) (n - i) (cap - (i + 1))) (.slice (some ⟨b, i * 2, none⟩) (n + 1 - i) (cap - i)) (by simp [Act.eval, Act.put]) (by simp [Act.eval, Act.put]) (CP1.out _ _ _) ?_)
  go_wp2_with (refine wpList_copy_run _ (by rfl) (.tmp 80) (.tmp 81) 39 39 (by rfl) (.slice (some ⟨b, i * 2, none⟩) (n + 1 - i) (cap - i)) (.slice (some ⟨vb, 0, none⟩) 1 1) (by rfl) (by rfl) (CP2.out _ _) ?_)
  go_ret
  exact ⟨rfl, FIN.out.1, FIN.out.2⟩

set_option maxHeartbeats 4000000 in
set_option maxRecDepth 100000 in
theorem ins_prop_grow (b n i : Nat) (xs : List Pr) (x : Pr) (vb : Nat) (w : World) (h : RowAt w b 67 2 n n (xs.flatMap Pr.cs)) (hxn : xs.length = n) (hx : Blk w vb 67 #[.string x.name, .string x.val]) (hi : i < n) (hsm : n ≤ 1000000) :
    Calls Tryz.prog 86 #[.slice (some ⟨b, 0, none⟩) n n, .int .i64 i, .slice (some ⟨vb, 0, none⟩) 1 1] w fun e w' => ∃ cap', e = .returned (.slice (some ⟨w.heap.size, 0, none⟩) (n + 1) cap') ∧ RowAt w' w.heap.size 67 2 (n + 1) cap' ((xs.take i ++ x :: xs.drop i).flatMap Pr.cs) ∧ Frame [] w w' := by
  obtain ⟨mov, hmov⟩ : ∃ mov, mov = (xs.drop i).flatMap Pr.cs := ⟨_, rfl⟩
  obtain ⟨pre, hpre⟩ : ∃ pre, pre = (xs.take i).flatMap Pr.cs := ⟨_, rfl⟩
  have hml : mov.length = (n - i) * 2 := by rw [hmov, flat_len pr_len, List.length_drop, hxn]
  have hpl : pre.length = i * 2 := by rw [hpre, flat_len pr_len, List.length_take, hxn, Nat.min_eq_left (by omega)]
  have hsplit : xs.flatMap Pr.cs = pre ++ mov := by rw [hmov, hpre, ← List.flatMap_append, List.take_append_drop]
  have hone : ∀ u ∈ mov, u.oneCell' = true := by
    intro u hu
    rw [hmov] at hu
    obtain ⟨y, _, hy⟩ := List.mem_flatMap.1 hu
    exact pr_one y u hy
  obtain ⟨i0, hi0, hz0, hzs, hzb⟩ := info_parts infoProp
  have hsz : (Tryz.prog.info? 67).map (·.size) = some 2 := by rw [hi0]; simp [hzs]
  have hold : (Builtin.firstCells i0.size i (.slice (some ⟨b, 0, none⟩) i n)).run Tryz.prog w.drew = .ok pre.toArray w.drew := by
    rw [hzs]
    exact run_firstCells_some w.drew 2 i ⟨b, 0, none⟩ i n pre hpl (fun j v hj => by
      rw [Addr.add_lit, Nat.zero_add]
      refine h.drew.cell ?_
      rw [hsplit, List.getElem?_append_left (List.getElem?_eq_some_iff.1 hj).1]
      exact hj)
  obtain ⟨G, hG⟩ : ∃ G, G = grownCap w (n + 1) n 67 := ⟨_, rfl⟩
  have hGn : n + 1 ≤ G := by rw [hG]; exact grownCap_ge w _ _ _
  have hG63 : G ≤ maxLen := by rw [hG]; exact grownCap_le_maxLen w (n + 1) n 67 (by unfold maxLen; omega)
  obtain ⟨ROW, hROW⟩ : ∃ ROW : Array Value, ROW = pre.toArray ++ Builtin.zeroCells (.agg #[.string ⟨#[]⟩, .string ⟨#[]⟩] : Value).cells (n + 1 - i) ++ Builtin.zeroCells (.agg #[.string ⟨#[]⟩, .string ⟨#[]⟩] : Value).cells (G - (n + 1)) := ⟨_, rfl⟩
  have hzz : (.agg #[.string ⟨#[]⟩, .string ⟨#[]⟩] : Value).cells.size = 2 := by kernel_rfl
  have hRl : ROW.size = G * 2 := by
    rw [hROW, Array.size_append, Array.size_append, zeroCells_size, zeroCells_size, hzz, List.size_toArray, hpl, ← Nat.add_mul, ← Nat.add_mul]; congr 1; omega
  have hRp : ROW.toList.take (i * 2) = pre := by
    rw [hROW]
    simp only [Array.toList_append, List.append_assoc]
    rw [List.take_append_of_le_length (by simp [hpl]), List.take_of_length_le (by simp [hpl])]
  obtain ⟨W1, hW1⟩ : ∃ W1, W1 = (w.alloc (.cells ROW 67)).drew := ⟨_, rfl⟩
  have hrz : ∀ ty, (Builtin.append_ #[39, 3] ty #[.slice (some ⟨b, 0, none⟩) i n, .int .i64 ((n : Int) + 1 - (i : Int))]).run Tryz.prog w = .ok (.slice (some ⟨w.heap.size, 0, none⟩) (n + 1) G) W1 := fun ty => by
    have q := Lib.run_append_grow_zeros w 39 3 ty 67 i0 _ .i64 .i64 Tryz.underlying39 Tryz.underlying3 hi0 hz0 (some ⟨b, 0, none⟩) i n pre hold (n + 1 - i) (by omega) (by omega) (by omega) (by omega) (by rw [hzb]; omega) (by rw [hzb, show i + (n + 1 - i) = n + 1 by omega]; exact growslice_fits (by omega) (by omega))
    rw [show i + (n + 1 - i) = n + 1 by omega, ← hG, ← hROW] at q
    rw [show (n : Int) + 1 - (i : Int) = ((n + 1 - i : Nat) : Int) by omega, hW1]
    exact q
  have hH : w.heap.size < W1.heap.size := by rw [hW1]; simp
  have hbN : Blk W1 w.heap.size 67 ROW := by rw [hW1]; exact (Blk.new w _ _).drew
  have hold1 : RowAt W1 b 67 2 n n (xs.flatMap Pr.cs) := by rw [hW1]; exact (h.alloc _).drew
  have hx1 : Blk W1 vb 67 #[.string x.name, .string x.val] := by rw [hW1]; exact (hx.alloc _).drew
  have hbw : b ≠ w.heap.size := by have := h.lt; omega
  have hq : (n + 1) * 2 = i * 2 + 2 + (n - i) * 2 := by rw [show n + 1 = i + 1 + (n - i) by omega, Nat.add_mul, Nat.add_mul, Nat.one_mul]
  have hmul : i * 2 + 2 + (n - i) * 2 ≤ ROW.toList.length := by rw [← hq, Array.length_toList, hRl]; exact Nat.mul_le_mul_right _ hGn
  have hi1 : (i + 1) * 2 = i * 2 + 2 := by rw [Nat.add_mul, Nat.one_mul]
  have hfit1 : i * 2 + (Pr.cs x).length ≤ ROW.toList.length := by rw [pr_len]; omega
  obtain ⟨W2, hW2⟩ : ∃ W2, W2 = W1.setCells w.heap.size (i * 2) (Pr.cs x) := ⟨_, rfl⟩
  have hcpA : ∀ ty dc, (Builtin.copy_ #[39, 39] ty #[.slice (some ⟨w.heap.size, i * 2, none⟩) (n + 1 - i) dc, .slice (some ⟨vb, 0, none⟩) 1 1]).run Tryz.prog W1 = .ok (goInt (1 : Nat)) W2 := fun ty dc => by
    rw [hW2]
    have q := run_copy_k W1 39 39 ty 67 w.heap.size (i * 2) (n + 1 - i) dc ⟨vb, 0, none⟩ 1 1 1 2 (Pr.cs x) Tryz.underlying39 hsz (by simp only [Nat.min_def]; split <;> omega) (pr_len x)
      (fun j v hj => World.news_of_block hx1 j v (by simpa [Pr.cs] using hj)) (fun j hj => hbN.isSome (by have h2 := hfit1; rw [show ROW.toList.length = ROW.size from Array.length_toList] at h2; exact Nat.lt_of_lt_of_le (Nat.add_lt_add_left hj _) h2)) (fun j hj => hbN.frozen _) (pr_one x)
    exact q
  have hb2 : Blk W2 w.heap.size 67 (over ROW.toList (i * 2) (Pr.cs x)).toArray := by rw [hW2]; exact Blk.setCells hbN hfit1
  have hold2 : RowAt W2 b 67 2 n n (xs.flatMap Pr.cs) := by rw [hW2]; exact hold1.frame (Frame.setCells _ _ _ _) (by simpa using hbw)
  have hfit2 : (i + 1) * 2 + mov.length ≤ (over ROW.toList (i * 2) (Pr.cs x)).length := by rw [over_len hfit1, hml, hi1]; exact hmul
  have hcpB : ∀ ty dc sc, (Builtin.copy_ #[39, 39] ty #[.slice (some ⟨w.heap.size, (i + 1) * 2, none⟩) (n - i) dc, .slice (some ⟨b, i * 2, none⟩) (n - i) sc]).run Tryz.prog W2.drew = .ok (goInt (n - i : Nat)) (W2.drew.setCells w.heap.size ((i + 1) * 2) mov) := fun ty dc sc => by
    have q := run_copy_k W2.drew 39 39 ty 67 w.heap.size ((i + 1) * 2) (n - i) dc ⟨b, i * 2, none⟩ (n - i) sc (n - i) 2 mov Tryz.underlying39 hsz (by simp only [Nat.min_def]; split <;> omega) hml
      (fun j v hj => by
        rw [Addr.add_lit]
        refine hold2.drew.cell ?_
        rw [hsplit, List.getElem?_append_right (by omega), hpl, Nat.add_sub_cancel_left]
        exact hj) (fun j hj => hb2.drew.isSome (by rw [List.size_toArray]; omega)) (fun j hj => hb2.drew.frozen _) hone
    exact q
  have hfin : RowAt (W2.drew.setCells w.heap.size ((i + 1) * 2) mov) w.heap.size 67 2 (n + 1) G ((xs.take i ++ x :: xs.drop i).flatMap Pr.cs) := by
    have hbe := Blk.setCells (vs := mov) (o := (i + 1) * 2) hb2.drew (by rw [List.size_toArray]; omega)
    refine RowAt.of_blk hbe hGn hG63 (by rw [List.size_toArray, over_len (by rw [List.toList_toArray]; omega), List.toList_toArray, over_len hfit1, Array.length_toList, hRl]) ?_
    simp only [List.toList_toArray]
    rw [hq]
    have := over_seq (cs := ROW.toList) (mid := mov) (new := Pr.cs x) (pr_len x) hml hpl hRp hmul
    rw [hi1, this, hmov, hpre]
    simp [List.flatMap_append]
  have hfr : Frame [] w (W2.drew.setCells w.heap.size ((i + 1) * 2) mov) := by
    have g1 : Frame [] w W1 := by rw [hW1]; exact (Frame.alloc _ _ _).trans1 (Frame.drew _ _)
    have g2 : Frame [w.heap.size] W1 W2 := by rw [hW2]; exact Frame.setCells _ _ _ _
    exact g1.trans ((g2.trans1 (Frame.drew _ _)).trans1 (Frame.setCells _ _ _ _)) (by simp)
  have FIN := Lib.hid (And.intro hfin hfr)
  have CPA := Lib.hid hcpA
  have CPB := Lib.hid hcpB
  have RZ := Lib.hid hrz
  have hw1 : IntKind.i64.wrap ((i : Int) + 1) = (i : Int) + 1 := by rw [IntKind.wrap_i64]; omega
  have hb1' : (0 : Int) ≤ (i : Int) + 1 := by omega
  have hin : i ≤ n := by omega
  have htn : ((i : Int) + 1).toNat = i + 1 := by omega
  have hb3 : (i : Int) ≤ (n : Int) + 1 := by omega
  have hb4 : ¬ (n = i) := by omega
  have hG1 : ¬ (G = i) := by omega
  have hG2 : ¬ (G = i + 1) := by omega
  have hz2 : ¬ ((i : Int) = (n : Int)) := by omega
  unfold maxLen at hG63
  clear hcpA hcpB hrz hfin hfr hsplit hone hmul hi1 hb2 hbN hx1 hold1 hold2 hold hfit1 hfit2 hq h hx hW1 hW2 hml hpl hmov hpre hxn hsz hRl hRp hROW hzz hG hi0 hz0 hzs hzb hbw
  go_enter Tryz.func86, Tryz.ntmps86
  go_wp2_with (first
    | (at_builtin; refine Lib.wpList_append_run _ rfl (.tmp 34) (.tmp 39) 39 3 rfl _ _ rfl rfl _ _ (RZ.out _) ?_)
    | (refine wpList_copy_run _ (by rfl) (.tmp 43) (.tmp 44) 39 39 (by rfl) (.slice (some ⟨w.heap.size, i * 2, none⟩) (n + 1 - i) (G - i)) (.slice (some ⟨vb, 0, none⟩) 1 1) (by rfl) (by rfl) (CPA.out _ _) ?_))
  go_region_law (refine step_copy_run (by rfl) (.tmp 50) (.tmp 53) 39 39 (by rfl) (.slice (some ⟨w.heap.size, (i + 1) * 2, none⟩) (n - i) (G - (i + 1))) (.slice (some ⟨b, i * 2, none⟩) (n - i) (n - i)) (by simp [Act.eval, Act.put]) (by simp [Act.eval, Act.put]) (CPB.out _ _ _) ?_)
  go_wp2_with fail
  go_ret
  exact ⟨_, rfl, FIN.out.1, FIN.out.2⟩

set_option maxRecDepth 100000 in
theorem ins_prop_end (v : Value) (xs : List Pr) (x : Pr) (G : List Nat) (vb : Nat) (w : World) (h : Sl w 67 2 Pr.cs v xs G) (hx : Blk w vb 67 #[.string x.name, .string x.val]) (hn : xs.length ≤ 1000000) :
    Calls Tryz.prog 86 #[v, .int .i64 xs.length, .slice (some ⟨vb, 0, none⟩) 1 1] w fun e w' => ∃ b' cap', e = .returned (.slice (some ⟨b', 0, none⟩) (xs.length + 1) cap') ∧ Sl w' 67 2 Pr.cs (.slice (some ⟨b', 0, none⟩) (xs.length + 1) cap') (xs ++ [x]) [b'] ∧ Frame G w w' ∧ (b' ∈ G ∨ b' = w.heap.size) := by
  have B := Lib.hid hx
  clear hx
  rcases id h with ⟨rfl, rfl, rfl⟩ | ⟨b, cap, rfl, rfl, hr⟩
  · have S := Lib.hid h
    clear h
    simp only [List.length_nil, Nat.zero_add, List.nil_append]
    go_enter Tryz.func86, Tryz.ntmps86
    go_wp2_with (at_builtin; refine wpList_append_sl _ rfl (.tmp 23) (.tmp 24) 39 rfl 67 2 32 _ Pr.cs Tryz.underlying39 infoProp rfl (by omega) (.slice none 0 0) [] [] rfl S.out vb 1 1 [x] _ rfl B.out rfl rfl pr_len pr_one (by omega) (by first | omega | (simp; done)) (by omega) ?_; intro b' cap' w4 sl4 f4 hb4)
    all_goals (go_ret; exact ⟨_, _, rfl, by simpa using sl4, f4, by simpa using hb4⟩)
  · have S := Lib.hid h
    obtain ⟨_, _, hnc, _⟩ := hr.blk
    clear h hr
    go_enter Tryz.func86, Tryz.ntmps86
    go_wp2_with (at_builtin; refine wpList_append_sl _ rfl (.tmp 23) (.tmp 24) 39 rfl 67 2 32 _ Pr.cs Tryz.underlying39 infoProp rfl (by omega) (.slice (some ⟨b, 0, none⟩) xs.length cap) xs [b] rfl S.out vb 1 1 [x] _ rfl B.out rfl rfl pr_len pr_one (by omega) (by first | omega | (simp; done)) (by omega) ?_; intro b' cap' w4 sl4 f4 hb4)
    all_goals (go_ret; exact ⟨_, _, rfl, by simpa using sl4, f4, by simpa using hb4⟩)

theorem ins_prop_any (v : Value) (xs : List Pr) (x : Pr) (G : List Nat) (vb i : Nat) (w : World) (h : Sl w 67 2 Pr.cs v xs G) (hx : Blk w vb 67 #[.string x.name, .string x.val]) (hvb : vb ∉ G) (hn : xs.length ≤ 1000000) (hi : i ≤ xs.length) :
    Calls Tryz.prog 86 #[v, .int .i64 i, .slice (some ⟨vb, 0, none⟩) 1 1] w fun e w' => ∃ b' cap', e = .returned (.slice (some ⟨b', 0, none⟩) (xs.length + 1) cap') ∧ Sl w' 67 2 Pr.cs (.slice (some ⟨b', 0, none⟩) (xs.length + 1) cap') (xs.take i ++ x :: xs.drop i) [b'] ∧ Frame G w w' ∧ (b' ∈ G ∨ b' = w.heap.size) := by
  rcases Nat.lt_or_ge i xs.length with hlt | hge
  · have hl : (xs.take i ++ x :: xs.drop i).length = xs.length + 1 := by simp; omega
    rcases id h with ⟨rfl, rfl, rfl⟩ | ⟨b, cap, rfl, rfl, hr⟩
    · simp at hlt
    · obtain ⟨cs, hb, hnc, _⟩ := hr.blk
      rcases Nat.lt_or_ge xs.length cap with hc | hc
      · refine (ins_prop_room b cap xs.length i xs x vb w hr rfl hx (by simpa using hvb) hlt hc).mono ?_
        rintro e w' ⟨rfl, h1, h2⟩
        exact ⟨b, cap, rfl, .inr ⟨b, cap, by rw [hl], rfl, by rw [hl]; exact h1⟩, h2, .inl (by simp)⟩
      · obtain rfl : cap = xs.length := by omega
        refine (ins_prop_grow b xs.length i xs x vb w hr rfl hx hlt hn).mono ?_
        rintro e w' ⟨cap', rfl, h1, h2⟩
        exact ⟨w.heap.size, cap', rfl, .inr ⟨w.heap.size, cap', by rw [hl], rfl, by rw [hl]; exact h1⟩, h2.mono (by simp), .inr rfl⟩
  · obtain rfl : i = xs.length := by omega
    rw [List.take_of_length_le (Nat.le_refl _), List.drop_of_length_le (Nat.le_refl _)]
    exact ins_prop_end v xs x G vb w h hx hn
end Go.Proofs.YtjcajidgaejhoaaGreat

