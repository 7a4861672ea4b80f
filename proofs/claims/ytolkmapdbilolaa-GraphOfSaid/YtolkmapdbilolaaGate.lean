/- circ.Store in memory; what gate does. -/
import Derived.Test.YtolkmapdbilolaaGt
namespace Go.Proofs.Ytolkmapdbilolaa
open Go.RowKit
set_option linter.unusedSimpArgs false
set_option linter.unusedVariables false

/-- A store of gates at block pb; F: all its blocks. -/
def St (w : World) (pb : Nat) (F : List Nat) (l : List Gt) (left : Int) : Prop :=
  ∃ lb cap mb kb, F = [pb, lb, mb, kb] ∧
    Blk w pb 110 #[.slice (some ⟨lb, 0, none⟩) l.length cap, .map (some mb), .pointer (some ⟨kb, 0, none⟩)] ∧
    RowAt w lb 39 3 l.length cap (l.flatMap Gt.cs) ∧ MBlk w mb (ents l).toArray l.length ∧ Blk w kb 154 #[.int .i64 left] ∧
    pb ≠ lb ∧ pb ≠ kb ∧ lb ≠ kb ∧ 0 ≤ left ∧ left + l.length ≤ 1073741824

theorem RowAt.ne_m {w : World} {b e size n cap b' : Nat} {xs : List Value} {es : Array MapEntry} {c : Nat} (h : RowAt w b e size n cap xs) (h' : MBlk w b' es c) : b ≠ b' := let ⟨_, h1, _⟩ := h.blk; h1.ne_m h'

theorem St.lt {w : World} {pb : Nat} {F : List Nat} {l : List Gt} {left : Int} (h : St w pb F l left) : ∀ x ∈ F, x < w.heap.size := by
  obtain ⟨lb, cap, mb, kb, rfl, h1, h2, h3, h4, _⟩ := h
  simp [h1.lt, h2.lt, h3.lt, h4.lt]
theorem St.frame {w w' : World} {pb : Nat} {F S : List Nat} {l : List Gt} {left : Int} (h : St w pb F l left) (f : Frame S w w') (hS : ∀ x ∈ F, x ∉ S) : St w' pb F l left := by
  obtain ⟨lb, cap, mb, kb, rfl, h1, h2, h3, h4, h5⟩ := h
  simp at hS
  exact ⟨lb, cap, mb, kb, rfl, h1.frame f hS.1, h2.frame f hS.2.1, h3.frame f hS.2.2.1, h4.frame f hS.2.2.2, h5⟩
theorem St.frame0 {w w' : World} {pb : Nat} {F : List Nat} {l : List Gt} {left : Int} (h : St w pb F l left) (f : Frame [] w w') : St w' pb F l left := h.frame f (by simp)

theorem infoGate : (Try.prog.info? 39).map (fun i => (i.zero, i.size, i.bytes)) = some (some (.agg #[.int .i64 0, .int .i64 0, .int .i64 0]), 3, 24) := by kernel_rfl

theorem gate_old (pb : Nat) (F : List Nat) (l : List Gt) (left : Int) (x y z : Int) (w : World) (h : St w pb F l left) (k : Nat) (hf : find ⟨x, y, z⟩ l 0 = some k) :
    Calls Try.prog 111 #[.pointer (some ⟨pb, 0, none⟩), .agg #[.int .i64 x, .int .i64 y, .int .i64 z]] w fun e w' => e = .returned (.int .i64 k) ∧ Frame [] w w' := by
  obtain ⟨lb, cap, mb, kb, -, h0, -, hm, -⟩ := h
  have hk := hm.alloc (.cells #[.int .i64 x, .int .i64 y, .int .i64 z] 39)
  have c1 := (h0.alloc (.cells #[.int .i64 x, .int .i64 y, .int .i64 z] 39)).at 1 rfl
  have hlk : ∀ n, (Instr.lookup 106 (.map (some mb)) (.agg #[.int .i64 x, .int .i64 y, .int .i64 z]) true).run Try.prog ((w.alloc (.cells #[.int .i64 x, .int .i64 y, .int .i64 z] 39)).drewN n) = .ok (.tuple #[.int .i64 k, .bool true]) ((w.alloc (.cells #[.int .i64 x, .int .i64 y, .int .i64 z] 39)).drewN n) := by
    intro n
    have := lookup_gate _ mb l _ ⟨x, y, z⟩ (hk.drewN n)
    rw [Gt.val] at this
    rw [this]
    simp [looked, hf]
  clear hk hm h0 hf
  go_enter Try.func111, Try.ntmps111
  go_wp2_with fail
  go_quiet (fail)
  go_wp2_with fail
  go_ret
  exact ⟨rfl, (Frame.alloc _ _ _).trans0 (Frame.drewN _ _ _)⟩

theorem gate_full (pb : Nat) (F : List Nat) (l : List Gt) (x y z : Int) (w : World) (h : St w pb F l 0) (hf : find ⟨x, y, z⟩ l 0 = none) :
    Calls Try.prog 111 #[.pointer (some ⟨pb, 0, none⟩), .agg #[.int .i64 x, .int .i64 y, .int .i64 z]] w fun e w' => ∃ chain, e = .panicked chain ∧ bailing w 10 1 chain w' ∧ Frame [] w w' := by
  obtain ⟨lb, cap, mb, kb, -, h0, -, hm, hkb, -⟩ := h
  have hk := hm.alloc (.cells #[.int .i64 x, .int .i64 y, .int .i64 z] 39)
  have c1 := (h0.alloc (.cells #[.int .i64 x, .int .i64 y, .int .i64 z] 39)).at 1 rfl
  have c2 := (h0.alloc (.cells #[.int .i64 x, .int .i64 y, .int .i64 z] 39)).at 2 rfl
  have hlk : ∀ n, (Instr.lookup 106 (.map (some mb)) (.agg #[.int .i64 x, .int .i64 y, .int .i64 z]) true).run Try.prog ((w.alloc (.cells #[.int .i64 x, .int .i64 y, .int .i64 z] 39)).drewN n) = .ok (.tuple #[.int .i64 0, .bool false]) ((w.alloc (.cells #[.int .i64 x, .int .i64 y, .int .i64 z] 39)).drewN n) := by
    intro n
    have := lookup_gate _ mb l _ ⟨x, y, z⟩ (hk.drewN n)
    rw [Gt.val] at this
    rw [this]
    simp [looked, hf]
  clear hk hm h0 hf
  go_enter Try.func111, Try.ntmps111
  go_wp2_with fail
  go_quiet (fail)
  go_wp2_with fail
  refine (use_none kb _ ((hkb.alloc _).drewN _)).mono ?_
  rintro e w2 ⟨chain, rfl, ⟨nb, h1, h2, h3⟩, f2⟩
  refine ⟨rfl, chain, rfl, ⟨nb, h1, ?_, h3⟩, ((Frame.alloc _ _ _).trans0 (Frame.drewN _ _ _)).trans0 f2⟩
  simp [World.drewN] at h2; omega

theorem gate_new (pb : Nat) (F : List Nat) (l : List Gt) (left : Int) (x y z : Int) (w : World) (h : St w pb F l left) (hf : find ⟨x, y, z⟩ l 0 = none) (hl1 : 1 ≤ left) :
    Calls Try.prog 111 #[.pointer (some ⟨pb, 0, none⟩), .agg #[.int .i64 x, .int .i64 y, .int .i64 z]] w fun e w' => e = .returned (.int .i64 l.length) ∧
      ∃ F', St w' pb F' (l ++ [⟨x, y, z⟩]) (left - 1) ∧ Frame F w w' ∧ Grow F F' w := by
  obtain ⟨lb, cap, mb, kb, rfl, h0, hl, hm, hkb, n1, n2, n3, -, hsum⟩ := h
  have hl2 : left ≤ 1073741824 := by omega
  have hlen : l.length ≤ 1073741824 := by omega
  have hk := hm.alloc (.cells #[.int .i64 x, .int .i64 y, .int .i64 z] 39)
  have c1 := (h0.alloc (.cells #[.int .i64 x, .int .i64 y, .int .i64 z] 39)).at 1 rfl
  have c2 := (h0.alloc (.cells #[.int .i64 x, .int .i64 y, .int .i64 z] 39)).at 2 rfl
  have hlk : ∀ n, (Instr.lookup 106 (.map (some mb)) (.agg #[.int .i64 x, .int .i64 y, .int .i64 z]) true).run Try.prog ((w.alloc (.cells #[.int .i64 x, .int .i64 y, .int .i64 z] 39)).drewN n) = .ok (.tuple #[.int .i64 0, .bool false]) ((w.alloc (.cells #[.int .i64 x, .int .i64 y, .int .i64 z] 39)).drewN n) := by
    intro n
    have := lookup_gate _ mb l _ ⟨x, y, z⟩ (hk.drewN n)
    rw [Gt.val] at this
    rw [this]
    simp [looked, hf]
  have H := Lib.hid hf
  have HS := Lib.hid hsum
  clear hf hsum
  go_enter Try.func111, Try.ntmps111
  go_wp2_with fail
  go_quiet (fail)
  go_wp2_with fail
  refine (use_any kb left _ ((hkb.alloc _).drewN _) hl1 hl2).mono ?_
  rintro e w2 ⟨rfl, f2, hkb2⟩
  have fr : Frame [kb] w w2 := (((Frame.alloc [kb] w (.cells #[.int .i64 x, .int .i64 y, .int .i64 z] 39)).trans1 (Frame.drewN [kb] _ nq)).trans1 f2)
  have hbx := (((Blk.new w 39 #[.int .i64 x, .int .i64 y, .int .i64 z]).drewN nq).frame f2 (by have := hkb.lt; simp; omega))
  have hm2 := hm.frame fr (by simp; exact (hkb.ne_m hm).symm)
  have h2 := h0.frame fr (by simpa using n2)
  have hl3 := hl.frame fr (by simpa using n3)
  have nm1 := h0.ne_m hm
  have nm2 := hl.ne_m hm
  have nm3 := hkb.ne_m hm
  have g0 := h2.at 0 rfl
  have f0 := h2.frozen 0
  have b0 := hbx.at 0 rfl
  have b1 := hbx.at 1 rfl
  have b2 := hbx.at 2 rfl
  have lt1 := h0.lt
  have lt2 := hl.lt
  clear hlk c1 c2 hk
  go_wp2_with fail
  obtain ⟨i0, hi, hz0, hz1, hz2⟩ := info_parts infoGate
  have hmx : l.length + 1 ≤ maxLen := by unfold maxLen; omega
  have g0a := (h2.alloc (.cells #[.int .i64 x, .int .i64 y, .int .i64 z] 39)).at 0 rfl
  have HI := Lib.hid (And.intro hi (And.intro hz0 (And.intro hz1 hz2)))
  have HM := Lib.hid hmx
  clear hi hz0 hz1 hz2 hmx
  go_cut [] (fun wx => ∃ g cap', Blk wx pb 110 #[.slice (some ⟨g, 0, none⟩) (l.length + 1) cap', .map (some mb), .pointer (some ⟨kb, 0, none⟩)] ∧
    RowAt wx g 39 3 (l.length + 1) cap' (l.flatMap Gt.cs ++ [.int .i64 x, .int .i64 y, .int .i64 z]) ∧ (lb = g ∨ w2.heap.size ≤ g) ∧ Frame [pb, lb] w2 wx)
  case first =>
    go_region_law (refine step_append_lies _ rfl (.tmp 32) (.tmp 34) 37 rfl 0 39 i0 _ 3 24 Try.underlying37 HI.out.1 HI.out.2.1 HI.out.2.2.1 HI.out.2.2.2 rfl (by decide) (.slice (some ⟨lb, 0, none⟩) l.length cap) l.length (l.flatMap Gt.cs) (by simp [Act.eval, Act.put]) (hl3.drew.alloc _) ⟨w2.heap.size, 0, none⟩ 1 1 [.int .i64 x, .int .i64 y, .int .i64 z] (by simp [Act.eval, Act.put, World.drew]) rfl (World.news_of_block (heap_alloc_new w2.drew _)) (by simp [Value.oneCell']) (by omega) HM.out (by omega) (by omega) (w2.heap.size + 1) (by simp [World.drew]) ?_; intro g cap' w3 hown hgrow hat hlt; have f3 := Frame.of_grown (S := [lb]) hgrow (by simp [Value.ownBlock]); have h3 := (h2.drew.alloc _).frame f3 (by simpa using n1); have p0 := h3.at 0 rfl; have p1 := h3.frozen 0)
    all_goals
      go_wp2_with fail
      go_meet
      case rel =>
        have hat' : lb = g ∨ w2.heap.size ≤ g := by
          rcases hat with h | h
          · left; simpa [Value.ownBlock] using h
          · right; omega
        have hpg : pb ≠ g := by rcases hat' with h | h; exact h ▸ n1; have := h2.lt; omega
        refine ⟨g, cap', h3.set 0 _, RowAt.set_ne hown _ (fun e => hpg e.symm), hat', ?_⟩
        have fa : Frame [pb, lb] w2 (w2.drew.alloc (.cells #[.int .i64 x, .int .i64 y, .int .i64 z] 39)) := (Frame.drew _ _).trans1 (Frame.alloc _ _ _)
        exact (fa.trans f3 (by simp)).trans1 (Frame.setCell _ _ _ (by simp))
  case rest =>
    obtain ⟨g, cap', q0, q1, q2, q3⟩ := hcut
    have hb3 := hbx.frame q3 (by simp; omega)
    have hm3 := hm2.frame q3 (by simp; exact ⟨fun e => nm1 e.symm, fun e => nm2 e.symm⟩)
    have hk3 := hkb2.frame q3 (by simp; exact ⟨fun e => n2 e.symm, fun e => n3 e.symm⟩)
    have hup := update_gate wc.drew mb l ⟨x, y, z⟩ hm3.drew H.out
    rw [Gt.val] at hup
    have r1 := q0.at 1 rfl
    have r2 := hb3.at 0 rfl
    have r3 := hb3.at 1 rfl
    have r4 := hb3.at 2 rfl
    clear g0a b0 b1 b2 g0 f0
    go_wp2_with fail
    go_region
    go_wp2_with fail
    go_ret
    refine ⟨rfl, [pb, g, mb, kb], ⟨g, cap', mb, kb, rfl, ?_, ?_, ?_, ?_, ?_, n2, ?_, by omega, ?_⟩, ?_, ?_⟩
    · have := q0.drew.frame (Frame.setMap (S := [mb]) wc.drew mb (ents (l ++ [⟨x, y, z⟩])).toArray (l.length + 1) (by simp)) (by simpa using nm1)
      simpa using this
    · have := q1.drew.frame (Frame.setMap (S := [mb]) wc.drew mb (ents (l ++ [⟨x, y, z⟩])).toArray (l.length + 1) (by simp)) (by simpa using q1.ne_m hm3)
      simpa [Gt.cs] using this
    · have := hm3.drew.set (ents (l ++ [⟨x, y, z⟩])).toArray (l.length + 1)
      simpa using this
    · exact hk3.drew.frame (Frame.setMap (S := [mb]) wc.drew mb (ents (l ++ [⟨x, y, z⟩])).toArray (l.length + 1) (by simp)) (by simpa using nm3)
    · rcases q2 with h | h
      · exact h ▸ n1
      · have := h2.lt; omega
    · rcases q2 with h | h
      · exact h ▸ n3
      · have := hkb2.lt; omega
    · have := HS.out; simp; omega
    · exact ((fr.mono (S' := [pb, lb, mb, kb]) (by simp)).trans q3 (by simp)).trans ((Frame.drew [mb] _).trans1 (Frame.setMap _ _ _ _ (by simp))) (by simp)
    · intro x hx
      simp at hx ⊢
      have := fr.size
      rcases hx with rfl | rfl | rfl | rfl
      · simp
      · rcases q2 with rfl | h
        · simp
        · right; omega
      · simp
      · simp

end Go.Proofs.Ytolkmapdbilolaa
