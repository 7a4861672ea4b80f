/- circ: made, by Catch. -/
import Derived.Test.YtfplakdingfccaaGreatMe08
namespace Go.Proofs.YtfplakdingfccaaGreat
open Go.RowKit
set_option linter.unusedSimpArgs false
set_option linter.unusedVariables false

theorem entered_made1 : Entered 117 := by intro args w; simp [go_sem]

/-- The closure, where gate comes back. -/
theorem made1_ret (sb gb kb pb : Nat) (x y z : Int) (k : Int) (w : World) (R : World → Prop) (F : List Nat) (hs : Blk w sb 26 #[.pointer (some ⟨pb, 0, none⟩)]) (hg : Blk w gb 98 #[.int .i64 x, .int .i64 y, .int .i64 z]) (hk : Blk w kb 3 #[.int .i64 0])
    (hF : kb ∉ F) (h : Calls Tryz.prog 118 #[.pointer (some ⟨pb, 0, none⟩), .agg #[.int .i64 x, .int .i64 y, .int .i64 z]] w fun e w' => e = .returned (.int .i64 k) ∧ Frame F w w' ∧ R w') :
    Calls Tryz.prog 117 #[.pointer (some ⟨sb, 0, none⟩), .pointer (some ⟨gb, 0, none⟩), .pointer (some ⟨kb, 0, none⟩)] w fun e w' => e = .returned (.tuple #[]) ∧ ∃ w1, Frame F w w1 ∧ R w1 ∧ Frame [kb] w1 w' ∧ Blk w' kb 3 #[.int .i64 k] := by
  have s0 := hs.at 0 rfl
  have g0 := hg.at 0 rfl
  have g1 := hg.at 1 rfl
  have g2 := hg.at 2 rfl
  have H := Lib.hid h
  clear h
  go_enter Tryz.func117, Tryz.ntmps117
  go_wp2_with fail
  refine H.out.mono ?_
  rintro e w1 ⟨rfl, f1, hr⟩
  have k1 := hk.frame f1 hF
  have c1 := k1.at 0 rfl
  have c2 := k1.frozen 0
  have HR := Lib.hid hr
  clear hr
  go_wp2_with fail
  go_end0
  exact ⟨rfl, w1, f1, HR.out, Frame.setCell _ _ _ (by simp), k1.set 0 _⟩

theorem made1_bail (sb gb kb pb : Nat) (x y z : Int) (w : World) (hs : Blk w sb 26 #[.pointer (some ⟨pb, 0, none⟩)]) (hg : Blk w gb 98 #[.int .i64 x, .int .i64 y, .int .i64 z])
    (h : Calls Tryz.prog 118 #[.pointer (some ⟨pb, 0, none⟩), .agg #[.int .i64 x, .int .i64 y, .int .i64 z]] w fun e w' => ∃ chain, e = .panicked chain ∧ bailing w 10 1 chain w' ∧ Frame [] w w') :
    Calls Tryz.prog 117 #[.pointer (some ⟨sb, 0, none⟩), .pointer (some ⟨gb, 0, none⟩), .pointer (some ⟨kb, 0, none⟩)] w fun e w' => ∃ chain, e = .panicked chain ∧ bailing w 10 1 chain w' ∧ Frame [] w w' := by
  have s0 := hs.at 0 rfl
  have g0 := hg.at 0 rfl
  have g1 := hg.at 1 rfl
  have g2 := hg.at 2 rfl
  have H := Lib.hid h
  clear h
  go_enter Tryz.func117, Tryz.ntmps117
  go_wp2_with fail
  refine H.out.mono ?_
  rintro e w1 ⟨chain, rfl, h1, h2⟩
  exact ⟨rfl, chain, rfl, h1, h2⟩

/-- What made comes to: the gate's number and the error; the gates; what is left. -/
def put (g : Gt) (l : List Gt) (left : Int) : (Int × Int) × List Gt × Int :=
  match find g l 0 with
  | some k => ((k, 0), l, left)
  | none => if 1 ≤ left then ((l.length, 0), l ++ [g], left - 1) else ((0, 10), l, left)

/-- A store, at the end of a call. -/
def StEnd (w : World) (pb : Nat) (F : List Nat) (l : List Gt) (left : Int) (w' : World) : Prop := ∃ F', St w' pb F' l left ∧ Frame F w w' ∧ Grow F F' w

theorem made_of (pb : Nat) (F : List Nat) (l l' : List Gt) (left left' k : Int) (x y z : Int) (w : World) (h : St w pb F l left)
    (hc : ∀ w1 F1, St w1 pb F1 l left → Calls Tryz.prog 118 #[.pointer (some ⟨pb, 0, none⟩), .agg #[.int .i64 x, .int .i64 y, .int .i64 z]] w1 fun e w' => e = .returned (.int .i64 k) ∧ StEnd w1 pb F1 l' left' w') :
    Calls Tryz.prog 84 #[.pointer (some ⟨pb, 0, none⟩), .agg #[.int .i64 x, .int .i64 y, .int .i64 z]] w fun e w' => e = .returned (.tuple #[.int .i64 k, .int .i64 0]) ∧ StEnd w pb F l' left' w' := by
  have hmf := run_makeFunc
  have HC := Lib.hid hc
  have HL := Lib.hid h.lt
  clear hc
  go_enter Tryz.func84, Tryz.ntmps84
  go_wp2_with fail
  have k1 : Blk (((w.alloc (.cells #[.pointer (some ⟨pb, 0, none⟩)] 26)).alloc (.cells #[.int .i64 x, .int .i64 y, .int .i64 z] 98)).alloc (.cells #[.int .i64 0] 3)) w.heap.size 26 #[.pointer (some ⟨pb, 0, none⟩)] := ((Blk.new _ _ _).alloc _).alloc _
  have k2 : Blk (((w.alloc (.cells #[.pointer (some ⟨pb, 0, none⟩)] 26)).alloc (.cells #[.int .i64 x, .int .i64 y, .int .i64 z] 98)).alloc (.cells #[.int .i64 0] 3)) (w.heap.size + 1) 98 #[.int .i64 x, .int .i64 y, .int .i64 z] := by
    have := (Blk.new (w.alloc (.cells #[.pointer (some ⟨pb, 0, none⟩)] 26)) 98 #[.int .i64 x, .int .i64 y, .int .i64 z]).alloc (.cells #[.int .i64 0] 3)
    simpa using this
  have k3 : Blk (((w.alloc (.cells #[.pointer (some ⟨pb, 0, none⟩)] 26)).alloc (.cells #[.int .i64 x, .int .i64 y, .int .i64 z] 98)).alloc (.cells #[.int .i64 0] 3)) (w.heap.size + 1 + 1) 3 #[.int .i64 0] := by
    have := (Blk.new ((w.alloc (.cells #[.pointer (some ⟨pb, 0, none⟩)] 26)).alloc (.cells #[.int .i64 x, .int .i64 y, .int .i64 z] 98)) 3 #[.int .i64 0])
    simpa using this
  have fr0 : Frame [] w _ := ((Frame.alloc [] w (.cells #[.pointer (some ⟨pb, 0, none⟩)] 26)).trans1 (Frame.alloc [] _ (.cells #[.int .i64 x, .int .i64 y, .int .i64 z] 98))).trans1 (Frame.alloc [] _ (.cells #[.int .i64 0] 3))
  have hz : (((w.alloc (.cells #[.pointer (some ⟨pb, 0, none⟩)] 26)).alloc (.cells #[.int .i64 x, .int .i64 y, .int .i64 z] 98)).alloc (.cells #[.int .i64 0] 3)).heap.size = w.heap.size + 3 := by simp
  generalize (((w.alloc (.cells #[.pointer (some ⟨pb, 0, none⟩)] 26)).alloc (.cells #[.int .i64 x, .int .i64 y, .int .i64 z] 98)).alloc (.cells #[.int .i64 0] 3)) = w0 at *
  refine (catch_ret 117 _ w0 (fun w'' => Blk w'' (w.heap.size + 1 + 1) 3 #[.int .i64 k] ∧ ∃ F', St w'' pb F' l' left' ∧ Frame F w w'' ∧ Grow F F' w ∧ ∀ x ∈ F', x ≠ w.heap.size + 1 + 1) (F ++ [w.heap.size + 1 + 1]) entered_made1 ?_ ?_).mono ?_
  · intro x hx
    simp at hx
    rcases hx with hx | hx
    · have := HL.out x hx; omega
    · omega
  · intro w1 fr1 hz1
    have st1 := (h.frame0 fr0).frame0 fr1
    refine (made1_ret _ _ _ pb x y z k w1 (fun w' => StEnd w1 pb F l' left' w') F (k1.frame fr1 (by simp)) (k2.frame fr1 (by simp)) (k3.frame fr1 (by simp)) (fun hm => by have := HL.out _ hm; omega) ((HC.out w1 F st1).mono ?_)).mono ?_
    · rintro e w' ⟨rfl, F', a1, a2, a3⟩
      exact ⟨rfl, a2, F', a1, a2, a3⟩
    · rintro e w' ⟨rfl, w2, f2, ⟨F', a1, a2, a3⟩, f3, hk'⟩
      refine ⟨rfl, (f2.mono (S' := F ++ [w.heap.size + 1 + 1]) (fun x hx => .inl (by simp [hx]))).trans f3 (by simp), fun w'' f4 => ⟨hk'.frame f4 (by simp; omega), ?_⟩⟩
      have hF' : ∀ x ∈ F', x ∈ F ∨ w0.heap.size + 2 ≤ x := fun x hx => by rcases a3 x hx with h | h; exact .inl h; right; omega
      refine ⟨F', (a1.frame f3 ?_).frame f4 ?_, ?_, ?_, ?_⟩
      · intro x hx; simp
        rcases hF' x hx with h | h
        · have := HL.out x h; omega
        · omega
      · intro x hx; simp
        rcases hF' x hx with h | h
        · have := HL.out x h; omega
        · omega
      · exact ((((fr0.trans1 fr1).mono (S' := F) (by simp)).trans1 f2).trans f3 (by simp; omega)).trans f4 (by simp; omega)
      · intro x hx
        rcases hF' x hx with h | h
        · exact .inl h
        · right; omega
      · intro x hx
        rcases hF' x hx with h | h
        · have := HL.out x h; omega
        · omega
  · rintro e w1 ⟨rfl, hkb, hst⟩
    have c1 := hkb.at 0 rfl
    have c2 := hkb.frozen 0
    have HST := Lib.hid hst
    clear hst
    go_wp2_with fail
    have k4 := (hkb.set 0 (.int .i64 k)).at 0 rfl
    obtain ⟨F', a1, a2, a3, hF'⟩ := HST.out
    refine bodyPost_ret (v := .tuple #[.int .i64 k, .int .i64 0]) (by simp [results, Tryz.results84, go_sem, k4]) rfl ⟨rfl, F', a1.frame (Frame.setCell (S := [w.heap.size + 1 + 1]) _ _ _ (by simp)) (fun x hx => by simp; exact hF' x hx), a2.trans (Frame.setCell (S := [w.heap.size + 1 + 1]) _ _ _ (by simp)) (by simp; omega), a3⟩

theorem made_full (pb : Nat) (F : List Nat) (l : List Gt) (x y z : Int) (w : World) (h : St w pb F l 0) (hf : find ⟨x, y, z⟩ l 0 = none) :
    Calls Tryz.prog 84 #[.pointer (some ⟨pb, 0, none⟩), .agg #[.int .i64 x, .int .i64 y, .int .i64 z]] w fun e w' => e = .returned (.tuple #[.int .i64 0, .int .i64 10]) ∧ Frame [] w w' := by
  have hmf := run_makeFunc
  have HF := Lib.hid hf
  clear hf
  go_enter Tryz.func84, Tryz.ntmps84
  go_wp2_with fail
  have k1 : Blk (((w.alloc (.cells #[.pointer (some ⟨pb, 0, none⟩)] 26)).alloc (.cells #[.int .i64 x, .int .i64 y, .int .i64 z] 98)).alloc (.cells #[.int .i64 0] 3)) w.heap.size 26 #[.pointer (some ⟨pb, 0, none⟩)] := ((Blk.new _ _ _).alloc _).alloc _
  have k2 : Blk (((w.alloc (.cells #[.pointer (some ⟨pb, 0, none⟩)] 26)).alloc (.cells #[.int .i64 x, .int .i64 y, .int .i64 z] 98)).alloc (.cells #[.int .i64 0] 3)) (w.heap.size + 1) 98 #[.int .i64 x, .int .i64 y, .int .i64 z] := by
    have := (Blk.new (w.alloc (.cells #[.pointer (some ⟨pb, 0, none⟩)] 26)) 98 #[.int .i64 x, .int .i64 y, .int .i64 z]).alloc (.cells #[.int .i64 0] 3)
    simpa using this
  have k3 : Blk (((w.alloc (.cells #[.pointer (some ⟨pb, 0, none⟩)] 26)).alloc (.cells #[.int .i64 x, .int .i64 y, .int .i64 z] 98)).alloc (.cells #[.int .i64 0] 3)) (w.heap.size + 1 + 1) 3 #[.int .i64 0] := by
    have := (Blk.new ((w.alloc (.cells #[.pointer (some ⟨pb, 0, none⟩)] 26)).alloc (.cells #[.int .i64 x, .int .i64 y, .int .i64 z] 98)) 3 #[.int .i64 0])
    simpa using this
  have fr0 : Frame [] w _ := ((Frame.alloc [] w (.cells #[.pointer (some ⟨pb, 0, none⟩)] 26)).trans1 (Frame.alloc [] _ (.cells #[.int .i64 x, .int .i64 y, .int .i64 z] 98))).trans1 (Frame.alloc [] _ (.cells #[.int .i64 0] 3))
  have hz : (((w.alloc (.cells #[.pointer (some ⟨pb, 0, none⟩)] 26)).alloc (.cells #[.int .i64 x, .int .i64 y, .int .i64 z] 98)).alloc (.cells #[.int .i64 0] 3)).heap.size = w.heap.size + 3 := by simp
  generalize (((w.alloc (.cells #[.pointer (some ⟨pb, 0, none⟩)] 26)).alloc (.cells #[.int .i64 x, .int .i64 y, .int .i64 z] 98)).alloc (.cells #[.int .i64 0] 3)) = w0 at *
  refine (catch_bail 117 _ w0 (fun w'' => Blk w'' (w.heap.size + 1 + 1) 3 #[.int .i64 0] ∧ Frame [] w w'') [] 10 1 entered_made1 (by simp) ?_).mono ?_
  · intro w1 fr1 hz1
    have st1 := (h.frame0 fr0).frame0 fr1
    refine (made1_bail _ _ _ pb x y z w1 (k1.frame fr1 (by simp)) (k2.frame fr1 (by simp)) (gate_full pb F l x y z w1 st1 HF.out)).mono ?_
    rintro e w' ⟨chain, rfl, hb, f2⟩
    refine ⟨chain, rfl, hb, f2, fun w'' f4 => ⟨((k3.frame fr1 (by simp)).frame f2 (by simp)).frame f4 (by simp; omega), ?_⟩⟩
    exact ((fr0.trans1 fr1).trans1 f2).trans f4 (by simp; omega)
  · rintro e w1 ⟨rfl, hkb, hfr⟩
    have c1 := hkb.at 0 rfl
    have c2 := hkb.frozen 0
    go_wp2_with fail
    have k4 := (hkb.set 0 (.int .i64 0)).at 0 rfl
    refine bodyPost_ret (v := .tuple #[.int .i64 0, .int .i64 10]) (by simp [results, Tryz.results84, go_sem, k4]) rfl ⟨rfl, hfr.trans (Frame.setCell (S := [w.heap.size + 1 + 1]) _ _ _ (by simp)) (by simp; omega)⟩

theorem made_any (pb : Nat) (F : List Nat) (l : List Gt) (left : Int) (x y z : Int) (w : World) (h : St w pb F l left) :
    Calls Tryz.prog 84 #[.pointer (some ⟨pb, 0, none⟩), .agg #[.int .i64 x, .int .i64 y, .int .i64 z]] w fun e w' =>
      e = .returned (.tuple #[.int .i64 (put ⟨x, y, z⟩ l left).1.1, .int .i64 (put ⟨x, y, z⟩ l left).1.2]) ∧ StEnd w pb F (put ⟨x, y, z⟩ l left).2.1 (put ⟨x, y, z⟩ l left).2.2 w' := by
  have self : ∀ w' F1, St w' pb F1 l left → ∀ w'', Frame [] w' w'' → StEnd w' pb F1 l left w'' := fun w' F1 h w'' f => ⟨F1, h.frame0 f, f.mono (by simp), fun x hx => .inl hx⟩
  unfold put
  cases hf : find ⟨x, y, z⟩ l 0 with
  | some k =>
    exact made_of pb F l l left left k x y z w h (fun w1 F1 h1 => (gate_old pb F1 l left x y z w1 h1 k hf).mono (fun e w' ⟨he, f⟩ => ⟨he, self _ _ h1 _ f⟩))
  | none =>
    by_cases hl : 1 ≤ left
    · simp only [if_pos hl]
      exact made_of pb F l (l ++ [⟨x, y, z⟩]) left (left - 1) l.length x y z w h (fun w1 F1 h1 => (gate_new pb F1 l left x y z w1 h1 hf hl).mono (fun e w' ⟨he, F', a, b, c⟩ => ⟨he, F', a, b, c⟩))
    · have h0 : left = 0 := by obtain ⟨_, _, _, _, _, _, _, _, _, _, _, _, h0, _⟩ := h; omega
      subst h0
      simp only [if_neg hl]
      exact (made_full pb F l x y z w h hf).mono (fun e w' ⟨he, f⟩ => ⟨he, self _ _ h _ f⟩)

end Go.Proofs.YtfplakdingfccaaGreat

