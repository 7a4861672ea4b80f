/- Gates as keys of a map. circ.Store in memory; what gate does. circ: made, by Catch. -/
import Derived.Test.YtbnhhmejlglbcaaMg02
namespace Go.Proofs.Ytbnhhmejlglbcaa
open Go.RowKit
set_option linter.unusedSimpArgs false
set_option linter.unusedVariables false

structure Gt where
  k : Int
  a : Int
  b : Int
  deriving DecidableEq

def Gt.val (g : Gt) : Value := .agg #[.int .i64 g.k, .int .i64 g.a, .int .i64 g.b]
def Gt.cs (g : Gt) : List Value := [.int .i64 g.k, .int .i64 g.a, .int .i64 g.b]
def ents (l : List Gt) : List MapEntry := l.zipIdx.map fun (g, i) => { key := g.val, val := .int .i64 i, born := i }
/-- The place of a gate. -/
def find (g : Gt) (l : List Gt) (i : Nat) : Option Nat := match l with
  | [] => none
  | h :: t => if g = h then some i else find g t (i + 1)

theorem eq_gate (d : Nat) (g h : Gt) (w : World) : (Op.equalIn (d+2) 64 g.val h.val).run Try.prog w = .ok (decide (g = h)) w := by
  simp [Op.equalIn, Gt.val, go_sem]
  by_cases h1 : g.k = h.k <;> by_cases h2 : g.a = h.a <;> by_cases h3 : g.b = h.b <;> simp [h1, h2, h3] <;> first | (cases g; cases h; simp_all) | (intro e; subst e; simp_all)

theorem equal_gate (g h : Gt) (w : World) : (Op.equal 64 g.val h.val).run Try.prog w = .ok (decide (g = h)) w := eq_gate 9998 g h w

theorem findAsking_gate (g : Gt) (w : World) : ∀ (l : List Gt) (i : Nat), (Instr.findAsking 64 g.val ((l.zipIdx i).map fun (g, i) => { key := g.val, val := .int .i64 i, born := i }) i).run Try.prog w = .ok ((find g l i).map fun k => (k, .int .i64 k)) w
  | [], i => by simp [Instr.findAsking, find, go_sem]
  | h :: t, i => by
    have ih := findAsking_gate g w t (i + 1)
    simp only [List.zipIdx_cons, List.map_cons, Instr.findAsking, find]
    by_cases e : g = h
    · simp [Sem.run_bind, equal_gate, Result.andThen, e]
    · simp [Sem.run_bind, equal_gate, Result.andThen, e, ih]

theorem findKey_gate (g : Gt) (w : World) (l : List Gt) : (Instr.findKey 64 g.val (ents l)).run Try.prog w = .ok ((find g l 0).map fun k => (k, .int .i64 k)) w := by
  cases l with
  | nil => simp [Instr.findKey, ents, find, go_sem, Instr.findNow]
  | cons h t =>
    have := findAsking_gate g w (h :: t) 0
    simp only [Instr.findKey, ents, go_sem, Instr.findNow, Instr.sameNow, List.zipIdx_cons, List.map_cons] at *
    simpa [Result.andThen] using this

theorem checkKey_gate (e : Bool) (g : Gt) (w : World) : (Instr.checkKey e 10000 64 g.val).run Try.prog w = .ok () w := by
  have hk : ∀ n x (w : World), (Instr.checkKey e (n + 1) 3 (.int .i64 x)).run Try.prog w = .ok () w := by
    intro n x w; simp [Instr.checkKey, go_sem]
  have h2 : ∀ n, (Instr.checkKey e (n + 2) 64 g.val).run Try.prog w = .ok () w := by
    intro n
    rw [Instr.checkKey]
    simp only [Gt.val, go_sem, hk]
    simp [go_sem, hk]
  exact h2 9998

/-- What a look-up tells. -/
def looked (g : Gt) (l : List Gt) : Value := match find g l 0 with
  | some k => .tuple #[.int .i64 k, .bool true]
  | none => .tuple #[.int .i64 0, .bool false]

theorem lookup_gate (w : World) (mb : Nat) (l : List Gt) (clock : Nat) (g : Gt) (h : MBlk w mb (ents l).toArray clock) :
    (Instr.lookup 80 (.map (some mb)) g.val true).run Try.prog w = .ok (looked g l) w := by
  have h1 := checkKey_gate (ents l).isEmpty g w
  have h2 := findKey_gate g w l
  have hg : (getObj mb).run Try.prog w = .ok (.map (ents l).toArray clock) w := by unfold MBlk at h; simp [getObj, Sem.run, h]
  unfold looked
  cases hf : find g l 0 with
  | none => simp [Instr.lookup, go_sem, hg, h1, h2, hf]
  | some p => simp [Instr.lookup, go_sem, hg, h1, h2, hf]

theorem update_gate (w : World) (mb : Nat) (l : List Gt) (g : Gt) (h : MBlk w mb (ents l).toArray l.length) (hf : find g l 0 = none) :
    (Instr.mapUpdate 80 (.map (some mb)) g.val (.int .i64 l.length)).run Try.prog w = .ok () (setMap w mb (ents (l ++ [g])).toArray (l.length + 1)) := by
  have h1 := checkKey_gate false g w
  have h2 := findKey_gate g w l
  have hg : (getObj mb).run Try.prog w = .ok (.map (ents l).toArray l.length) w := by unfold MBlk at h; simp [getObj, Sem.run, h]
  have hs : ∀ o, (setObj mb o).run Try.prog w = .ok () { w with heap := w.heap.setIfInBounds mb o } := by intro o; unfold MBlk at h; simp [setObj, Sem.run, h]
  have he : (ents l).toArray.push { key := g.val, val := .int .i64 l.length, born := l.length } = (ents (l ++ [g])).toArray := by simp [ents, List.zipIdx_append]
  simp [Instr.mapUpdate, go_sem, hg, h1, h2, hs, hf, ← he, setMap]

end Go.Proofs.Ytbnhhmejlglbcaa

namespace Go.Proofs.Ytbnhhmejlglbcaa
open Go.RowKit
set_option linter.unusedSimpArgs false
set_option linter.unusedVariables false

/-- A store of gates at block pb; F: all its blocks. -/
def St (w : World) (pb : Nat) (F : List Nat) (l : List Gt) (left : Int) : Prop :=
  ∃ lb cap mb kb, F = [pb, lb, mb, kb] ∧
    Blk w pb 84 #[.slice (some ⟨lb, 0, none⟩) l.length cap, .map (some mb), .pointer (some ⟨kb, 0, none⟩)] ∧
    RowAt w lb 64 3 l.length cap (l.flatMap Gt.cs) ∧ MBlk w mb (ents l).toArray l.length ∧ Blk w kb 103 #[.int .i64 left] ∧
    pb ≠ lb ∧ pb ≠ kb ∧ lb ≠ kb ∧ 0 ≤ left ∧ left + l.length ≤ 1073741824

theorem RowAt.ne_m {w : World} {b e size n cap b' : Nat} {xs : List Value} {es : Array MapEntry} {c : Nat} (h : RowAt w b e size n cap xs) (h' : MBlk w b' es c) : b ≠ b' := let ⟨_, h1, _⟩ := h.blk; h1.ne_m h'

theorem St.lt {w : World} {pb : Nat} {F : List Nat} {l : List Gt} {left : Int} (h : St w pb F l left) : ∀ x ∈ F, x < w.heap.size := by
  obtain ⟨lb, cap, mb, kb, rfl, h1, h2, h3, h4, _⟩ := h
  simp [h1.lt, h2.lt, h3.lt, h4.lt]
theorem St.frame {w w' : World} {pb : Nat} {F S : List Nat} {l : List Gt} {left : Int} (h : St w pb F l left) (f : Frame S w w') (hS : ∀ x ∈ F, x ∉ S) : St w' pb F l left := by
  obtain ⟨lb, cap, mb, kb, rfl, h1, h2, h3, h4, h5⟩ := h
  simp at hS
  exact ⟨lb, cap, mb, kb, rfl, h1.frame f hS.1, h2.frame f hS.2.1, h3.frame f hS.2.2.1, h4.frame f hS.2.2.2, h5⟩
theorem St.frame0 {w w' : World} {pb : Nat} {F : List Nat} {l : List Gt} {left : Int} (h : St w pb F l left) (f : Frame [] w w') : St w' pb F l left := h.frame f (by simp)

theorem infoGate : (Try.prog.info? 64).map (fun i => (i.zero, i.size, i.bytes)) = some (some (.agg #[.int .i64 0, .int .i64 0, .int .i64 0]), 3, 24) := by kernel_rfl

theorem gate_old (pb : Nat) (F : List Nat) (l : List Gt) (left : Int) (x y z : Int) (w : World) (h : St w pb F l left) (k : Nat) (hf : find ⟨x, y, z⟩ l 0 = some k) :
    Calls Try.prog 54 #[.pointer (some ⟨pb, 0, none⟩), .agg #[.int .i64 x, .int .i64 y, .int .i64 z]] w fun e w' => e = .returned (.int .i64 k) ∧ Frame [] w w' := by
  obtain ⟨lb, cap, mb, kb, -, h0, -, hm, -⟩ := h
  have hk := hm.alloc (.cells #[.int .i64 x, .int .i64 y, .int .i64 z] 64)
  have c1 := (h0.alloc (.cells #[.int .i64 x, .int .i64 y, .int .i64 z] 64)).at 1 rfl
  have hlk : ∀ n, (Instr.lookup 80 (.map (some mb)) (.agg #[.int .i64 x, .int .i64 y, .int .i64 z]) true).run Try.prog ((w.alloc (.cells #[.int .i64 x, .int .i64 y, .int .i64 z] 64)).drewN n) = .ok (.tuple #[.int .i64 k, .bool true]) ((w.alloc (.cells #[.int .i64 x, .int .i64 y, .int .i64 z] 64)).drewN n) := by
    intro n
    have := lookup_gate _ mb l _ ⟨x, y, z⟩ (hk.drewN n)
    rw [Gt.val] at this
    rw [this]
    simp [looked, hf]
  clear hk hm h0 hf
  go_enter Try.func54, Try.ntmps54
  go_wp2_with fail
  go_quiet (fail)
  go_wp2_with fail
  go_ret
  exact ⟨rfl, (Frame.alloc _ _ _).trans0 (Frame.drewN _ _ _)⟩

theorem gate_full (pb : Nat) (F : List Nat) (l : List Gt) (x y z : Int) (w : World) (h : St w pb F l 0) (hf : find ⟨x, y, z⟩ l 0 = none) :
    Calls Try.prog 54 #[.pointer (some ⟨pb, 0, none⟩), .agg #[.int .i64 x, .int .i64 y, .int .i64 z]] w fun e w' => ∃ chain, e = .panicked chain ∧ bailing w 10 1 chain w' ∧ Frame [] w w' := by
  obtain ⟨lb, cap, mb, kb, -, h0, -, hm, hkb, -⟩ := h
  have hk := hm.alloc (.cells #[.int .i64 x, .int .i64 y, .int .i64 z] 64)
  have c1 := (h0.alloc (.cells #[.int .i64 x, .int .i64 y, .int .i64 z] 64)).at 1 rfl
  have c2 := (h0.alloc (.cells #[.int .i64 x, .int .i64 y, .int .i64 z] 64)).at 2 rfl
  have hlk : ∀ n, (Instr.lookup 80 (.map (some mb)) (.agg #[.int .i64 x, .int .i64 y, .int .i64 z]) true).run Try.prog ((w.alloc (.cells #[.int .i64 x, .int .i64 y, .int .i64 z] 64)).drewN n) = .ok (.tuple #[.int .i64 0, .bool false]) ((w.alloc (.cells #[.int .i64 x, .int .i64 y, .int .i64 z] 64)).drewN n) := by
    intro n
    have := lookup_gate _ mb l _ ⟨x, y, z⟩ (hk.drewN n)
    rw [Gt.val] at this
    rw [this]
    simp [looked, hf]
  clear hk hm h0 hf
  go_enter Try.func54, Try.ntmps54
  go_wp2_with fail
  go_quiet (fail)
  go_wp2_with fail
  refine (use_none kb _ ((hkb.alloc _).drewN _)).mono ?_
  rintro e w2 ⟨chain, rfl, ⟨nb, h1, h2, h3⟩, f2⟩
  refine ⟨rfl, chain, rfl, ⟨nb, h1, ?_, h3⟩, ((Frame.alloc _ _ _).trans0 (Frame.drewN _ _ _)).trans0 f2⟩
  simp [World.drewN] at h2; omega

theorem gate_new (pb : Nat) (F : List Nat) (l : List Gt) (left : Int) (x y z : Int) (w : World) (h : St w pb F l left) (hf : find ⟨x, y, z⟩ l 0 = none) (hl1 : 1 ≤ left) :
    Calls Try.prog 54 #[.pointer (some ⟨pb, 0, none⟩), .agg #[.int .i64 x, .int .i64 y, .int .i64 z]] w fun e w' => e = .returned (.int .i64 l.length) ∧
      ∃ F', St w' pb F' (l ++ [⟨x, y, z⟩]) (left - 1) ∧ Frame F w w' ∧ Grow F F' w := by
  obtain ⟨lb, cap, mb, kb, rfl, h0, hl, hm, hkb, n1, n2, n3, -, hsum⟩ := h
  have hl2 : left ≤ 1073741824 := by omega
  have hlen : l.length ≤ 1073741824 := by omega
  have hk := hm.alloc (.cells #[.int .i64 x, .int .i64 y, .int .i64 z] 64)
  have c1 := (h0.alloc (.cells #[.int .i64 x, .int .i64 y, .int .i64 z] 64)).at 1 rfl
  have c2 := (h0.alloc (.cells #[.int .i64 x, .int .i64 y, .int .i64 z] 64)).at 2 rfl
  have hlk : ∀ n, (Instr.lookup 80 (.map (some mb)) (.agg #[.int .i64 x, .int .i64 y, .int .i64 z]) true).run Try.prog ((w.alloc (.cells #[.int .i64 x, .int .i64 y, .int .i64 z] 64)).drewN n) = .ok (.tuple #[.int .i64 0, .bool false]) ((w.alloc (.cells #[.int .i64 x, .int .i64 y, .int .i64 z] 64)).drewN n) := by
    intro n
    have := lookup_gate _ mb l _ ⟨x, y, z⟩ (hk.drewN n)
    rw [Gt.val] at this
    rw [this]
    simp [looked, hf]
  have H := Lib.hid hf
  have HS := Lib.hid hsum
  clear hf hsum
  go_enter Try.func54, Try.ntmps54
  go_wp2_with fail
  go_quiet (fail)
  go_wp2_with fail
  refine (use_any kb left _ ((hkb.alloc _).drewN _) hl1 hl2).mono ?_
  rintro e w2 ⟨rfl, f2, hkb2⟩
  have fr : Frame [kb] w w2 := (((Frame.alloc [kb] w (.cells #[.int .i64 x, .int .i64 y, .int .i64 z] 64)).trans1 (Frame.drewN [kb] _ nq)).trans1 f2)
  have hbx := (((Blk.new w 64 #[.int .i64 x, .int .i64 y, .int .i64 z]).drewN nq).frame f2 (by have := hkb.lt; simp; omega))
  have hm2 := hm.frame fr (by simp; exact (hkb.ne_m hm).symm)
  have h2 := h0.frame fr (by simpa using n2)
  have hl3 := hl.frame fr (by simpa using n3)
  have nm1 := h0.ne_m hm
  have nm2 := hl.ne_m hm
  have nm3 := hkb.ne_m hm
  have g0 := h2.at 0 rfl
  have f0 := h2.frozen 0
  have b0 := hbx.at 0 rfl
  have b1 := hbx.at 1 rfl
  have b2 := hbx.at 2 rfl
  have lt1 := h0.lt
  have lt2 := hl.lt
  clear hlk c1 c2 hk
  go_wp2_with fail
  obtain ⟨i0, hi, hz0, hz1, hz2⟩ := info_parts infoGate
  have hmx : l.length + 1 ≤ maxLen := by unfold maxLen; omega
  have g0a := (h2.alloc (.cells #[.int .i64 x, .int .i64 y, .int .i64 z] 64)).at 0 rfl
  have HI := Lib.hid (And.intro hi (And.intro hz0 (And.intro hz1 hz2)))
  have HM := Lib.hid hmx
  clear hi hz0 hz1 hz2 hmx
  go_cut [] (fun wx => ∃ g cap', Blk wx pb 84 #[.slice (some ⟨g, 0, none⟩) (l.length + 1) cap', .map (some mb), .pointer (some ⟨kb, 0, none⟩)] ∧
    RowAt wx g 64 3 (l.length + 1) cap' (l.flatMap Gt.cs ++ [.int .i64 x, .int .i64 y, .int .i64 z]) ∧ (lb = g ∨ w2.heap.size ≤ g) ∧ Frame [pb, lb] w2 wx)
  case first =>
    go_region_law (refine step_append_lies _ rfl (.tmp 32) (.tmp 34) 79 rfl 0 64 i0 _ 3 24 Try.underlying79 HI.out.1 HI.out.2.1 HI.out.2.2.1 HI.out.2.2.2 rfl (by decide) (.slice (some ⟨lb, 0, none⟩) l.length cap) l.length (l.flatMap Gt.cs) (by simp [Act.eval, Act.put]) (hl3.drew.alloc _) ⟨w2.heap.size, 0, none⟩ 1 1 [.int .i64 x, .int .i64 y, .int .i64 z] (by simp [Act.eval, Act.put, World.drew]) rfl (World.news_of_block (heap_alloc_new w2.drew _)) (by simp [Value.oneCell']) (by omega) HM.out (by omega) (by omega) (w2.heap.size + 1) (by simp [World.drew]) ?_; intro g cap' w3 hown hgrow hat hlt; have f3 := Frame.of_grown (S := [lb]) hgrow (by simp [Value.ownBlock]); have h3 := (h2.drew.alloc _).frame f3 (by simpa using n1); have p0 := h3.at 0 rfl; have p1 := h3.frozen 0)
    all_goals
      go_wp2_with fail
      go_meet
      case rel =>
        have hat' : lb = g ∨ w2.heap.size ≤ g := by
          rcases hat with h | h
          · left; simpa [Value.ownBlock] using h
          · right; omega
        have hpg : pb ≠ g := by rcases hat' with h | h; exact h ▸ n1; have := h2.lt; omega
        refine ⟨g, cap', h3.set 0 _, RowAt.set_ne hown _ (fun e => hpg e.symm), hat', ?_⟩
        have fa : Frame [pb, lb] w2 (w2.drew.alloc (.cells #[.int .i64 x, .int .i64 y, .int .i64 z] 64)) := (Frame.drew _ _).trans1 (Frame.alloc _ _ _)
        exact (fa.trans f3 (by simp)).trans1 (Frame.setCell _ _ _ (by simp))
  case rest =>
    obtain ⟨g, cap', q0, q1, q2, q3⟩ := hcut
    have hb3 := hbx.frame q3 (by simp; omega)
    have hm3 := hm2.frame q3 (by simp; exact ⟨fun e => nm1 e.symm, fun e => nm2 e.symm⟩)
    have hk3 := hkb2.frame q3 (by simp; exact ⟨fun e => n2 e.symm, fun e => n3 e.symm⟩)
    have hup := update_gate wc.drew mb l ⟨x, y, z⟩ hm3.drew H.out
    rw [Gt.val] at hup
    have r1 := q0.at 1 rfl
    have r2 := hb3.at 0 rfl
    have r3 := hb3.at 1 rfl
    have r4 := hb3.at 2 rfl
    clear g0a b0 b1 b2 g0 f0
    go_wp2_with fail
    go_region
    go_wp2_with fail
    go_ret
    refine ⟨rfl, [pb, g, mb, kb], ⟨g, cap', mb, kb, rfl, ?_, ?_, ?_, ?_, ?_, n2, ?_, by omega, ?_⟩, ?_, ?_⟩
    · have := q0.drew.frame (Frame.setMap (S := [mb]) wc.drew mb (ents (l ++ [⟨x, y, z⟩])).toArray (l.length + 1) (by simp)) (by simpa using nm1)
      simpa using this
    · have := q1.drew.frame (Frame.setMap (S := [mb]) wc.drew mb (ents (l ++ [⟨x, y, z⟩])).toArray (l.length + 1) (by simp)) (by simpa using q1.ne_m hm3)
      simpa [Gt.cs] using this
    · have := hm3.drew.set (ents (l ++ [⟨x, y, z⟩])).toArray (l.length + 1)
      simpa using this
    · exact hk3.drew.frame (Frame.setMap (S := [mb]) wc.drew mb (ents (l ++ [⟨x, y, z⟩])).toArray (l.length + 1) (by simp)) (by simpa using nm3)
    · rcases q2 with h | h
      · exact h ▸ n1
      · have := h2.lt; omega
    · rcases q2 with h | h
      · exact h ▸ n3
      · have := hkb2.lt; omega
    · have := HS.out; simp; omega
    · exact ((fr.mono (S' := [pb, lb, mb, kb]) (by simp)).trans q3 (by simp)).trans ((Frame.drew [mb] _).trans1 (Frame.setMap _ _ _ _ (by simp))) (by simp)
    · intro x hx
      simp at hx ⊢
      have := fr.size
      rcases hx with rfl | rfl | rfl | rfl
      · simp
      · rcases q2 with rfl | h
        · simp
        · right; omega
      · simp
      · simp

end Go.Proofs.Ytbnhhmejlglbcaa

namespace Go.Proofs.Ytbnhhmejlglbcaa
open Go.RowKit
set_option linter.unusedSimpArgs false
set_option linter.unusedVariables false

theorem entered_made1 : Entered 53 := by intro args w; simp [go_sem]

/-- The closure, where gate comes back. -/
theorem made1_ret (sb gb kb pb : Nat) (x y z : Int) (k : Int) (w : World) (R : World → Prop) (F : List Nat) (hs : Blk w sb 25 #[.pointer (some ⟨pb, 0, none⟩)]) (hg : Blk w gb 64 #[.int .i64 x, .int .i64 y, .int .i64 z]) (hk : Blk w kb 3 #[.int .i64 0])
    (hF : kb ∉ F) (h : Calls Try.prog 54 #[.pointer (some ⟨pb, 0, none⟩), .agg #[.int .i64 x, .int .i64 y, .int .i64 z]] w fun e w' => e = .returned (.int .i64 k) ∧ Frame F w w' ∧ R w') :
    Calls Try.prog 53 #[.pointer (some ⟨sb, 0, none⟩), .pointer (some ⟨gb, 0, none⟩), .pointer (some ⟨kb, 0, none⟩)] w fun e w' => e = .returned (.tuple #[]) ∧ ∃ w1, Frame F w w1 ∧ R w1 ∧ Frame [kb] w1 w' ∧ Blk w' kb 3 #[.int .i64 k] := by
  have s0 := hs.at 0 rfl
  have g0 := hg.at 0 rfl
  have g1 := hg.at 1 rfl
  have g2 := hg.at 2 rfl
  have H := Lib.hid h
  clear h
  go_enter Try.func53, Try.ntmps53
  go_wp2_with fail
  refine H.out.mono ?_
  rintro e w1 ⟨rfl, f1, hr⟩
  have k1 := hk.frame f1 hF
  have c1 := k1.at 0 rfl
  have c2 := k1.frozen 0
  have HR := Lib.hid hr
  clear hr
  go_wp2_with fail
  go_end0
  exact ⟨rfl, w1, f1, HR.out, Frame.setCell _ _ _ (by simp), k1.set 0 _⟩

theorem made1_bail (sb gb kb pb : Nat) (x y z : Int) (w : World) (hs : Blk w sb 25 #[.pointer (some ⟨pb, 0, none⟩)]) (hg : Blk w gb 64 #[.int .i64 x, .int .i64 y, .int .i64 z])
    (h : Calls Try.prog 54 #[.pointer (some ⟨pb, 0, none⟩), .agg #[.int .i64 x, .int .i64 y, .int .i64 z]] w fun e w' => ∃ chain, e = .panicked chain ∧ bailing w 10 1 chain w' ∧ Frame [] w w') :
    Calls Try.prog 53 #[.pointer (some ⟨sb, 0, none⟩), .pointer (some ⟨gb, 0, none⟩), .pointer (some ⟨kb, 0, none⟩)] w fun e w' => ∃ chain, e = .panicked chain ∧ bailing w 10 1 chain w' ∧ Frame [] w w' := by
  have s0 := hs.at 0 rfl
  have g0 := hg.at 0 rfl
  have g1 := hg.at 1 rfl
  have g2 := hg.at 2 rfl
  have H := Lib.hid h
  clear h
  go_enter Try.func53, Try.ntmps53
  go_wp2_with fail
  refine H.out.mono ?_
  rintro e w1 ⟨chain, rfl, h1, h2⟩
  exact ⟨rfl, chain, rfl, h1, h2⟩

/-- What made comes to: the gate's number and the error; the gates; what is left. -/
def put (g : Gt) (l : List Gt) (left : Int) : (Int × Int) × List Gt × Int :=
  match find g l 0 with
  | some k => ((k, 0), l, left)
  | none => if 1 ≤ left then ((l.length, 0), l ++ [g], left - 1) else ((0, 10), l, left)

/-- A store, at the end of a call. -/
def StEnd (w : World) (pb : Nat) (F : List Nat) (l : List Gt) (left : Int) (w' : World) : Prop := ∃ F', St w' pb F' l left ∧ Frame F w w' ∧ Grow F F' w

theorem made_of (pb : Nat) (F : List Nat) (l l' : List Gt) (left left' k : Int) (x y z : Int) (w : World) (h : St w pb F l left)
    (hc : ∀ w1 F1, St w1 pb F1 l left → Calls Try.prog 54 #[.pointer (some ⟨pb, 0, none⟩), .agg #[.int .i64 x, .int .i64 y, .int .i64 z]] w1 fun e w' => e = .returned (.int .i64 k) ∧ StEnd w1 pb F1 l' left' w') :
    Calls Try.prog 35 #[.pointer (some ⟨pb, 0, none⟩), .agg #[.int .i64 x, .int .i64 y, .int .i64 z]] w fun e w' => e = .returned (.tuple #[.int .i64 k, .int .i64 0]) ∧ StEnd w pb F l' left' w' := by
  have hmf := run_makeFunc
  have HC := Lib.hid hc
  have HL := Lib.hid h.lt
  clear hc
  go_enter Try.func35, Try.ntmps35
  go_wp2_with fail
  have k1 : Blk (((w.alloc (.cells #[.pointer (some ⟨pb, 0, none⟩)] 25)).alloc (.cells #[.int .i64 x, .int .i64 y, .int .i64 z] 64)).alloc (.cells #[.int .i64 0] 3)) w.heap.size 25 #[.pointer (some ⟨pb, 0, none⟩)] := ((Blk.new _ _ _).alloc _).alloc _
  have k2 : Blk (((w.alloc (.cells #[.pointer (some ⟨pb, 0, none⟩)] 25)).alloc (.cells #[.int .i64 x, .int .i64 y, .int .i64 z] 64)).alloc (.cells #[.int .i64 0] 3)) (w.heap.size + 1) 64 #[.int .i64 x, .int .i64 y, .int .i64 z] := by
    have := (Blk.new (w.alloc (.cells #[.pointer (some ⟨pb, 0, none⟩)] 25)) 64 #[.int .i64 x, .int .i64 y, .int .i64 z]).alloc (.cells #[.int .i64 0] 3)
    simpa using this
  have k3 : Blk (((w.alloc (.cells #[.pointer (some ⟨pb, 0, none⟩)] 25)).alloc (.cells #[.int .i64 x, .int .i64 y, .int .i64 z] 64)).alloc (.cells #[.int .i64 0] 3)) (w.heap.size + 1 + 1) 3 #[.int .i64 0] := by
    have := (Blk.new ((w.alloc (.cells #[.pointer (some ⟨pb, 0, none⟩)] 25)).alloc (.cells #[.int .i64 x, .int .i64 y, .int .i64 z] 64)) 3 #[.int .i64 0])
    simpa using this
  have fr0 : Frame [] w _ := ((Frame.alloc [] w (.cells #[.pointer (some ⟨pb, 0, none⟩)] 25)).trans1 (Frame.alloc [] _ (.cells #[.int .i64 x, .int .i64 y, .int .i64 z] 64))).trans1 (Frame.alloc [] _ (.cells #[.int .i64 0] 3))
  have hz : (((w.alloc (.cells #[.pointer (some ⟨pb, 0, none⟩)] 25)).alloc (.cells #[.int .i64 x, .int .i64 y, .int .i64 z] 64)).alloc (.cells #[.int .i64 0] 3)).heap.size = w.heap.size + 3 := by simp
  generalize (((w.alloc (.cells #[.pointer (some ⟨pb, 0, none⟩)] 25)).alloc (.cells #[.int .i64 x, .int .i64 y, .int .i64 z] 64)).alloc (.cells #[.int .i64 0] 3)) = w0 at *
  refine (catch_ret 53 _ w0 (fun w'' => Blk w'' (w.heap.size + 1 + 1) 3 #[.int .i64 k] ∧ ∃ F', St w'' pb F' l' left' ∧ Frame F w w'' ∧ Grow F F' w ∧ ∀ x ∈ F', x ≠ w.heap.size + 1 + 1) (F ++ [w.heap.size + 1 + 1]) entered_made1 ?_ ?_).mono ?_
  · intro x hx
    simp at hx
    rcases hx with hx | hx
    · have := HL.out x hx; omega
    · omega
  · intro w1 fr1 hz1
    have st1 := (h.frame0 fr0).frame0 fr1
    refine (made1_ret _ _ _ pb x y z k w1 (fun w' => StEnd w1 pb F l' left' w') F (k1.frame fr1 (by simp)) (k2.frame fr1 (by simp)) (k3.frame fr1 (by simp)) (fun hm => by have := HL.out _ hm; omega) ((HC.out w1 F st1).mono ?_)).mono ?_
    · rintro e w' ⟨rfl, F', a1, a2, a3⟩
      exact ⟨rfl, a2, F', a1, a2, a3⟩
    · rintro e w' ⟨rfl, w2, f2, ⟨F', a1, a2, a3⟩, f3, hk'⟩
      refine ⟨rfl, (f2.mono (S' := F ++ [w.heap.size + 1 + 1]) (fun x hx => .inl (by simp [hx]))).trans f3 (by simp), fun w'' f4 => ⟨hk'.frame f4 (by simp; omega), ?_⟩⟩
      have hF' : ∀ x ∈ F', x ∈ F ∨ w0.heap.size + 2 ≤ x := fun x hx => by rcases a3 x hx with h | h; exact .inl h; right; omega
      refine ⟨F', (a1.frame f3 ?_).frame f4 ?_, ?_, ?_, ?_⟩
      · intro x hx; simp
        rcases hF' x hx with h | h
        · have := HL.out x h; omega
        · omega
      · intro x hx; simp
        rcases hF' x hx with h | h
        · have := HL.out x h; omega
        · omega
      · exact ((((fr0.trans1 fr1).mono (S' := F) (by simp)).trans1 f2).trans f3 (by simp; omega)).trans f4 (by simp; omega)
      · intro x hx
        rcases hF' x hx with h | h
        · exact .inl h
        · right; omega
      · intro x hx
        rcases hF' x hx with h | h
        · have := HL.out x h; omega
        · omega
  · rintro e w1 ⟨rfl, hkb, hst⟩
    have c1 := hkb.at 0 rfl
    have c2 := hkb.frozen 0
    have HST := Lib.hid hst
    clear hst
    go_wp2_with fail
    have k4 := (hkb.set 0 (.int .i64 k)).at 0 rfl
    obtain ⟨F', a1, a2, a3, hF'⟩ := HST.out
    refine bodyPost_ret (v := .tuple #[.int .i64 k, .int .i64 0]) (by simp [results, Try.results35, go_sem, k4]) rfl ⟨rfl, F', a1.frame (Frame.setCell (S := [w.heap.size + 1 + 1]) _ _ _ (by simp)) (fun x hx => by simp; exact hF' x hx), a2.trans (Frame.setCell (S := [w.heap.size + 1 + 1]) _ _ _ (by simp)) (by simp; omega), a3⟩

theorem made_full (pb : Nat) (F : List Nat) (l : List Gt) (x y z : Int) (w : World) (h : St w pb F l 0) (hf : find ⟨x, y, z⟩ l 0 = none) :
    Calls Try.prog 35 #[.pointer (some ⟨pb, 0, none⟩), .agg #[.int .i64 x, .int .i64 y, .int .i64 z]] w fun e w' => e = .returned (.tuple #[.int .i64 0, .int .i64 10]) ∧ Frame [] w w' := by
  have hmf := run_makeFunc
  have HF := Lib.hid hf
  clear hf
  go_enter Try.func35, Try.ntmps35
  go_wp2_with fail
  have k1 : Blk (((w.alloc (.cells #[.pointer (some ⟨pb, 0, none⟩)] 25)).alloc (.cells #[.int .i64 x, .int .i64 y, .int .i64 z] 64)).alloc (.cells #[.int .i64 0] 3)) w.heap.size 25 #[.pointer (some ⟨pb, 0, none⟩)] := ((Blk.new _ _ _).alloc _).alloc _
  have k2 : Blk (((w.alloc (.cells #[.pointer (some ⟨pb, 0, none⟩)] 25)).alloc (.cells #[.int .i64 x, .int .i64 y, .int .i64 z] 64)).alloc (.cells #[.int .i64 0] 3)) (w.heap.size + 1) 64 #[.int .i64 x, .int .i64 y, .int .i64 z] := by
    have := (Blk.new (w.alloc (.cells #[.pointer (some ⟨pb, 0, none⟩)] 25)) 64 #[.int .i64 x, .int .i64 y, .int .i64 z]).alloc (.cells #[.int .i64 0] 3)
    simpa using this
  have k3 : Blk (((w.alloc (.cells #[.pointer (some ⟨pb, 0, none⟩)] 25)).alloc (.cells #[.int .i64 x, .int .i64 y, .int .i64 z] 64)).alloc (.cells #[.int .i64 0] 3)) (w.heap.size + 1 + 1) 3 #[.int .i64 0] := by
    have := (Blk.new ((w.alloc (.cells #[.pointer (some ⟨pb, 0, none⟩)] 25)).alloc (.cells #[.int .i64 x, .int .i64 y, .int .i64 z] 64)) 3 #[.int .i64 0])
    simpa using this
  have fr0 : Frame [] w _ := ((Frame.alloc [] w (.cells #[.pointer (some ⟨pb, 0, none⟩)] 25)).trans1 (Frame.alloc [] _ (.cells #[.int .i64 x, .int .i64 y, .int .i64 z] 64))).trans1 (Frame.alloc [] _ (.cells #[.int .i64 0] 3))
  have hz : (((w.alloc (.cells #[.pointer (some ⟨pb, 0, none⟩)] 25)).alloc (.cells #[.int .i64 x, .int .i64 y, .int .i64 z] 64)).alloc (.cells #[.int .i64 0] 3)).heap.size = w.heap.size + 3 := by simp
  generalize (((w.alloc (.cells #[.pointer (some ⟨pb, 0, none⟩)] 25)).alloc (.cells #[.int .i64 x, .int .i64 y, .int .i64 z] 64)).alloc (.cells #[.int .i64 0] 3)) = w0 at *
  refine (catch_bail 53 _ w0 (fun w'' => Blk w'' (w.heap.size + 1 + 1) 3 #[.int .i64 0] ∧ Frame [] w w'') [] 10 1 entered_made1 (by simp) ?_).mono ?_
  · intro w1 fr1 hz1
    have st1 := (h.frame0 fr0).frame0 fr1
    refine (made1_bail _ _ _ pb x y z w1 (k1.frame fr1 (by simp)) (k2.frame fr1 (by simp)) (gate_full pb F l x y z w1 st1 HF.out)).mono ?_
    rintro e w' ⟨chain, rfl, hb, f2⟩
    refine ⟨chain, rfl, hb, f2, fun w'' f4 => ⟨((k3.frame fr1 (by simp)).frame f2 (by simp)).frame f4 (by simp; omega), ?_⟩⟩
    exact ((fr0.trans1 fr1).trans1 f2).trans f4 (by simp; omega)
  · rintro e w1 ⟨rfl, hkb, hfr⟩
    have c1 := hkb.at 0 rfl
    have c2 := hkb.frozen 0
    go_wp2_with fail
    have k4 := (hkb.set 0 (.int .i64 0)).at 0 rfl
    refine bodyPost_ret (v := .tuple #[.int .i64 0, .int .i64 10]) (by simp [results, Try.results35, go_sem, k4]) rfl ⟨rfl, hfr.trans (Frame.setCell (S := [w.heap.size + 1 + 1]) _ _ _ (by simp)) (by simp; omega)⟩

theorem made_any (pb : Nat) (F : List Nat) (l : List Gt) (left : Int) (x y z : Int) (w : World) (h : St w pb F l left) :
    Calls Try.prog 35 #[.pointer (some ⟨pb, 0, none⟩), .agg #[.int .i64 x, .int .i64 y, .int .i64 z]] w fun e w' =>
      e = .returned (.tuple #[.int .i64 (put ⟨x, y, z⟩ l left).1.1, .int .i64 (put ⟨x, y, z⟩ l left).1.2]) ∧ StEnd w pb F (put ⟨x, y, z⟩ l left).2.1 (put ⟨x, y, z⟩ l left).2.2 w' := by
  have self : ∀ w' F1, St w' pb F1 l left → ∀ w'', Frame [] w' w'' → StEnd w' pb F1 l left w'' := fun w' F1 h w'' f => ⟨F1, h.frame0 f, f.mono (by simp), fun x hx => .inl hx⟩
  unfold put
  cases hf : find ⟨x, y, z⟩ l 0 with
  | some k =>
    exact made_of pb F l l left left k x y z w h (fun w1 F1 h1 => (gate_old pb F1 l left x y z w1 h1 k hf).mono (fun e w' ⟨he, f⟩ => ⟨he, self _ _ h1 _ f⟩))
  | none =>
    by_cases hl : 1 ≤ left
    · simp only [if_pos hl]
      exact made_of pb F l (l ++ [⟨x, y, z⟩]) left (left - 1) l.length x y z w h (fun w1 F1 h1 => (gate_new pb F1 l left x y z w1 h1 hf hl).mono (fun e w' ⟨he, F', a, b, c⟩ => ⟨he, F', a, b, c⟩))
    · have h0 : left = 0 := by obtain ⟨_, _, _, _, _, _, _, _, _, _, _, _, h0, _⟩ := h; omega
      subst h0
      simp only [if_neg hl]
      exact (made_full pb F l x y z w h hf).mono (fun e w' ⟨he, f⟩ => ⟨he, self _ _ h _ f⟩)

end Go.Proofs.Ytbnhhmejlglbcaa

