/- circ: Sum, Gate. circ: New. -/
import Derived.Test.YtbnhhmejlglbcaaMg05
namespace Go.Proofs.Ytbnhhmejlglbcaa
open Go.RowKit
set_option linter.unusedSimpArgs false
set_option linter.unusedVariables false

def mkSum : List Int → Int → List Gt → Int → (Int × Int) × List Gt × Int
  | [], acc, l, left => ((acc, 0), l, left)
  | k :: ks, acc, l, left =>
    if (mkPlus acc k l left).1.2 = 0 then mkSum ks (mkPlus acc k l left).1.1 (mkPlus acc k l left).2.1 (mkPlus acc k l left).2.2
    else ((0, (mkPlus acc k l left).1.2), (mkPlus acc k l left).2.1, (mkPlus acc k l left).2.2)

theorem mkPlus_len (a b : Int) (l : List Gt) (left : Int) (h : 0 < l.length) : 0 < (mkPlus a b l left).2.1.length := by
  unfold mkPlus put
  repeat' split
  all_goals first | exact h | (simp; done) | (simp; omega)

/-- Apart from a store's blocks. -/
def RdI.Apart (a : Option Addr) (F : List Nat) : Prop := ∀ b off, a = some ⟨b, off, none⟩ → b ∉ F
theorem RdI.frameS {w w' : World} {S : List Nat} {a : Option Addr} {xs : List Int} (h : RdI w a xs) (f : Frame S w w') (hS : RdI.Apart a S) : RdI w' a xs := by
  rcases h with h | ⟨b, off, h1, h2, h3⟩
  · exact .inl h
  · exact .inr ⟨b, off, h1, Nat.lt_of_lt_of_le h2 f.size, fun k h => f.cell (h3 k h) (hS b off h1)⟩

theorem StEnd.start {w : World} {pb : Nat} {F : List Nat} {l : List Gt} {left : Int} (h : St w pb F l left) : StEnd w pb F l left w := StEnd.self h (Frame.refl _ _)
theorem StEnd.comp {w w1 w' : World} {pb : Nat} {F F1 : List Nat} {l : List Gt} {left : Int} (b : Frame F w w1) (c : Grow F F1 w) (h : StEnd w1 pb F1 l left w') : StEnd w pb F l left w' := by
  obtain ⟨F2, a', b', c'⟩ := h
  exact ⟨F2, a', b.trans b' c, fun x hx => by
    rcases c' x hx with h | h
    · exact c x h
    · right; have := b.size; omega⟩

/-- The cells of gate k. -/
theorem gates_at {l : List Gt} {k : Nat} {g : Gt} (h : l[k]? = some g) : (l.flatMap Gt.cs)[k * 3]? = some (.int .i64 g.k) ∧ (l.flatMap Gt.cs)[k * 3 + 1]? = some (.int .i64 g.a) ∧ (l.flatMap Gt.cs)[k * 3 + 2]? = some (.int .i64 g.b) := by
  induction l generalizing k with
  | nil => simp at h
  | cons x t ih =>
    cases k with
    | zero => simp at h; subst h; simp [Gt.cs]
    | succ k =>
      have := ih (k := k) (by simpa using h)
      simp only [List.flatMap_cons]
      have e : ∀ j, (x.cs ++ t.flatMap Gt.cs)[(k + 1) * 3 + j]? = (t.flatMap Gt.cs)[k * 3 + j]? := by
        intro j
        rw [List.getElem?_append_right (by simp [Gt.cs]; omega)]
        congr 1
        simp [Gt.cs]; omega
      exact ⟨(e 0).trans this.1, (e 1).trans this.2.1, (e 2).trans this.2.2⟩

theorem gate_get_any (pb : Nat) (F : List Nat) (l : List Gt) (left : Int) (k : Nat) (g : Gt) (w : World) (h : St w pb F l left) (hg : l[k]? = some g) :
    Calls Try.prog 25 #[.pointer (some ⟨pb, 0, none⟩), .int .i64 k] w fun e w' => e = .returned (.tuple #[.agg #[.int .i64 g.k, .int .i64 g.a, .int .i64 g.b], .bool true]) ∧ Frame [] w w' := by
  have hkl : k < l.length := (List.getElem?_eq_some_iff.1 hg).1
  have hA : areG l.length [(k : Int)] = true := by simp [areG, notG]; omega
  have HA := Lib.hid hA
  have H := Lib.hid h
  have HG := Lib.hid hg
  clear hA h hg
  go_enter Try.func25, Try.ntmps25
  go_wp2_with fail
  have fr : Frame [] w ((w.alloc (.cells #[.int .i64 0, .int .i64 0, .int .i64 0] 64)).alloc (.cells #[.int .i64 k] 3)) := (Frame.alloc _ _ _).trans1 (Frame.alloc _ _ _)
  have bz := (Blk.new w 64 #[.int .i64 0, .int .i64 0, .int .i64 0]).alloc (.cells #[.int .i64 k] 3)
  have hrd : RdI ((w.alloc (.cells #[.int .i64 0, .int .i64 0, .int .i64 0] 64)).alloc (.cells #[.int .i64 k] 3)) (some ⟨w.heap.size + 1, 0, none⟩) [(k : Int)] := by
    simpa using RdI.one (w.alloc (.cells #[.int .i64 0, .int .i64 0, .int .i64 0] 64)) k 3
  refine (is_any (some ⟨pb, 0, none⟩) l.length _ 1 [(k : Int)] _ hrd (by simp) (H.out.frame0 fr).lens).mono ?_
  rw [HA.out]
  rintro e w1 ⟨rfl, f1⟩
  have ft := fr.trans1 f1
  have bz1 := bz.frame f1 (by simp)
  obtain ⟨lb, cap, mb, kb, -, h1, h2, -⟩ := H.out.frame0 ft
  obtain ⟨g0, g1, g2⟩ := gates_at HG.out
  have c0 := h1.at 0 rfl
  have d0 := h2.cell g0
  have d1 := h2.cell g1
  have d2 := h2.cell g2
  have z0 := bz1.at 0 rfl
  have z1 := bz1.at 1 rfl
  have z2 := bz1.at 2 rfl
  have y0 := bz1.frozen 0
  have y1 := bz1.frozen 1
  have y2 := bz1.frozen 2
  clear g0 g1 g2 hrd
  go_wp2_with fail
  have hz := bz1.lt
  refine bodyPost_ret (v := .tuple #[.agg #[.int .i64 g.k, .int .i64 g.a, .int .i64 g.b], .bool true]) ?_ rfl ⟨rfl, ?_⟩
  · have b3 := ((bz1.set 0 (.int .i64 g.k)).set 1 (.int .i64 g.a)).set 2 (.int .i64 g.b)
    have x0 := b3.at 0 rfl
    have x1 := b3.at 1 rfl
    have x2 := b3.at 2 rfl
    simp [results, Try.results25, go_sem, x0, x1, x2]
  · exact ((ft.trans (Frame.setCell (S := [w.heap.size]) _ _ _ (by simp)) (by simp)).trans (Frame.setCell (S := [w.heap.size]) _ _ _ (by simp)) (by simp)).trans (Frame.setCell (S := [w.heap.size]) _ _ _ (by simp)) (by simp)

/-- Of what is no gate's number. -/
theorem gate_get_none (q : Option Addr) (n : Nat) (k : Int) (w : World) (h : Lens w q n) (hk : notG n k = true) :
    Calls Try.prog 25 #[.pointer q, .int .i64 k] w fun e w' => e = .returned (.tuple #[.agg #[.int .i64 0, .int .i64 0, .int .i64 0], .bool false]) ∧ Frame [] w w' := by
  have HA : Hid (areG n [k] = false) := by show areG n [k] = false; simp [areG, hk]
  have H := Lib.hid h
  clear h hk
  go_enter Try.func25, Try.ntmps25
  go_wp2_with fail
  have fr : Frame [] w ((w.alloc (.cells #[.int .i64 0, .int .i64 0, .int .i64 0] 64)).alloc (.cells #[.int .i64 k] 3)) := (Frame.alloc _ _ _).trans1 (Frame.alloc _ _ _)
  have bz := (Blk.new w 64 #[.int .i64 0, .int .i64 0, .int .i64 0]).alloc (.cells #[.int .i64 k] 3)
  have hrd : RdI ((w.alloc (.cells #[.int .i64 0, .int .i64 0, .int .i64 0] 64)).alloc (.cells #[.int .i64 k] 3)) (some ⟨w.heap.size + 1, 0, none⟩) [k] := by
    simpa using RdI.one (w.alloc (.cells #[.int .i64 0, .int .i64 0, .int .i64 0] 64)) k 3
  refine (is_any q n _ 1 [k] _ hrd (by simp) (fun w' f => H.out w' (fr.trans1 f))).mono ?_
  rw [HA.out]
  rintro e w1 ⟨rfl, f1⟩
  have ft := fr.trans1 f1
  have bz1 := bz.frame f1 (by simp)
  have z0 := bz1.at 0 rfl
  have z1 := bz1.at 1 rfl
  have z2 := bz1.at 2 rfl
  have y0 := bz1.frozen 0
  have y1 := bz1.frozen 1
  have y2 := bz1.frozen 2
  clear hrd
  go_wp2_with fail
  refine bodyPost_ret (v := .tuple #[.agg #[.int .i64 0, .int .i64 0, .int .i64 0], .bool false]) ?_ rfl ⟨rfl, ?_⟩
  · have b3 := ((bz1.set 0 (.int .i64 0)).set 1 (.int .i64 0)).set 2 (.int .i64 0)
    have x0 := b3.at 0 rfl
    have x1 := b3.at 1 rfl
    have x2 := b3.at 2 rfl
    simp [results, Try.results25, go_sem, x0, x1, x2]
  · exact ((ft.trans (Frame.setCell (S := [w.heap.size]) _ _ _ (by simp)) (by simp)).trans (Frame.setCell (S := [w.heap.size]) _ _ _ (by simp)) (by simp)).trans (Frame.setCell (S := [w.heap.size]) _ _ _ (by simp)) (by simp)

end Go.Proofs.Ytbnhhmejlglbcaa

namespace Go.Proofs.Ytbnhhmejlglbcaa
open Go.RowKit
set_option linter.unusedSimpArgs false
set_option linter.unusedVariables false

def init : List Gt := [⟨1, 0, 0⟩, ⟨2, 0, 0⟩]
def room (b : Int) : Int := min (max b 2) 1073741824 - 2

theorem run_update0 (w : World) (mb : Nat) (l : List Gt) (x y z : Int) (n : Int) (hn : n = l.length) (h : MBlk w mb (ents l).toArray l.length) (hf : find ⟨x, y, z⟩ l 0 = none) :
    (Instr.mapUpdate 80 (.map (some mb)) (.agg #[.int .i64 x, .int .i64 y, .int .i64 z]) (.int .i64 n)).run Try.prog w = .ok () (setMap w mb (ents (l ++ [⟨x, y, z⟩])).toArray (l.length + 1)) := by
  subst hn
  exact update_gate w mb l ⟨x, y, z⟩ h hf

set_option maxHeartbeats 400000 in
theorem new_any (b : Int) (w : World) :
    Calls Try.prog 13 #[.int .i64 b] w fun e w' => ∃ pb, e = .returned (.pointer (some ⟨pb, 0, none⟩)) ∧ ∃ F, St w' pb F init (room b) ∧ Frame [] w w' ∧ ∀ x ∈ F, w.heap.size ≤ x := by
  have hmm := @run_makeMap Try.prog
  have hroom : Hid (0 ≤ room b ∧ room b ≤ 1073741822) := by show 0 ≤ room b ∧ room b ≤ 1073741822; unfold room; omega
  go_enter Try.func13, Try.ntmps13
  go_wp2_with fail
  go_loopw [13] (fun i wr => ∃ k : Nat, k ≤ 2 ∧ i = .int .i64 k ∧ Frame [] w wr ∧ Blk wr w.heap.size 64 #[.int .i64 1, .int .i64 0, .int .i64 0, .int .i64 2, .int .i64 0, .int .i64 0] ∧ MBlk wr (w.heap.size + 1) (ents (init.take k)).toArray (init.take k).length ∧ w.heap.size + 2 ≤ wr.heap.size) (fun i _ => 2 - (intOf i).toNat)
  case atStart =>
    refine ⟨0, by omega, rfl, (Frame.alloc _ _ _).trans1 (Frame.alloc _ _ _), (Blk.new _ _ _).alloc _, ?_, by simp⟩
    have := MBlk.new (w.alloc (.cells #[.int .i64 1, .int .i64 0, .int .i64 0, .int .i64 2, .int .i64 0, .int .i64 0] 64)) #[] 0
    simpa [ents] using this
  case round =>
    obtain ⟨k, hk, rfl, f1, b1, m1, z1⟩ := hrel
    rcases (by omega : k = 0 ∨ k = 1 ∨ k = 2) with rfl | rfl | rfl
    · have u := run_update0 (wr.alloc (.cells #[.int .i64 1, .int .i64 0, .int .i64 0] 64)) (w.heap.size + 1) (init.take 0) 1 0 0 0 rfl (m1.alloc _) (by decide)
      have v := (Blk.new wr 64 #[.int .i64 1, .int .i64 0, .int .i64 0])
      have c0 := b1.at 0 rfl
      have c1 := b1.at 1 rfl
      have c2 := b1.at 2 rfl
      go_wp2_with fail
      go_roundw
      case rel =>
        have fs := Frame.setMap (S := [w.heap.size + 1]) (wr.alloc (.cells #[.int .i64 1, .int .i64 0, .int .i64 0] 64)) (w.heap.size + 1) (ents (init.take 0 ++ [⟨1, 0, 0⟩])).toArray ((init.take 0).length + 1) (by simp)
        refine ⟨1, by omega, rfl, ?_, (b1.alloc _).frame fs (by simp), MBlk.set (m1.alloc _) _ _, ?_⟩
        · exact (f1.trans1 (Frame.alloc _ _ _)).trans fs (by simp)
        · have := fs.size; simp at this ⊢; omega
      case measure => simp [intOf]
    · have u := run_update0 (wr.alloc (.cells #[.int .i64 2, .int .i64 0, .int .i64 0] 64)) (w.heap.size + 1) (init.take 1) 2 0 0 1 rfl (m1.alloc _) (by decide)
      have v := (Blk.new wr 64 #[.int .i64 2, .int .i64 0, .int .i64 0])
      have c0 := b1.at 3 rfl
      have c1 := b1.at 4 rfl
      have c2 := b1.at 5 rfl
      go_wp2_with fail
      go_roundw
      case rel =>
        have fs := Frame.setMap (S := [w.heap.size + 1]) (wr.alloc (.cells #[.int .i64 2, .int .i64 0, .int .i64 0] 64)) (w.heap.size + 1) (ents (init.take 1 ++ [⟨2, 0, 0⟩])).toArray ((init.take 1).length + 1) (by simp)
        refine ⟨2, by omega, rfl, ?_, (b1.alloc _).frame fs (by simp), MBlk.set (m1.alloc _) _ _, ?_⟩
        · exact (f1.trans1 (Frame.alloc _ _ _)).trans fs (by simp)
        · have := fs.size; simp at this ⊢; omega
      case measure => simp [intOf]
    · have hb3 : (b < 2 ∧ room b = 0) ∨ (2 ≤ b ∧ b ≤ 1073741824 ∧ room b = b - 2) ∨ (1073741824 < b ∧ room b = 1073741822) := by unfold room; omega
      rcases hb3 with ⟨h1, h2⟩ | ⟨h1, h1', h2⟩ | ⟨h1, h2⟩
      · have HR := Lib.hid h2
        clear h2
        go_wp2_with fail
        refine (newMeter_any _ _ (by omega)).mono ?_
        rintro e w2 ⟨rfl, rfl⟩
        go_wp2_with fail
        go_ret
        rw [HR.out]
        refine ⟨wr.heap.size + 1, rfl, [wr.heap.size + 1, w.heap.size, w.heap.size + 1, wr.heap.size], ⟨w.heap.size, 2, w.heap.size + 1, wr.heap.size, rfl, ?_, ?_, ?_, ?_, by omega, by omega, by omega, by omega, by simp only [init, List.length_cons, List.length_nil]; omega⟩, ?_, ?_⟩
        · have := Blk.new (wr.alloc (.cells #[.int .i64 0] 103)) 84 #[.slice (some ⟨w.heap.size, 0, none⟩) 2 2, .map (some (w.heap.size + 1)), .pointer (some ⟨wr.heap.size, 0, none⟩)]
          simpa [init] using this
        · exact RowAt.of_blk ((b1.alloc _).alloc _) (by simp [init]) (by unfold maxLen; omega) rfl (by simp [init, Gt.cs])
        · exact (m1.alloc _).alloc _
        · exact (Blk.new _ _ _).alloc _
        · exact (f1.trans1 (Frame.alloc _ _ _)).trans1 (Frame.alloc _ _ _)
        · simp; omega
      · have HR := Lib.hid h2
        clear h2
        go_wp2_with fail
        refine (newMeter_any _ _ (by omega)).mono ?_
        rintro e w2 ⟨rfl, rfl⟩
        go_wp2_with fail
        go_ret
        rw [HR.out]
        refine ⟨wr.heap.size + 1, rfl, [wr.heap.size + 1, w.heap.size, w.heap.size + 1, wr.heap.size], ⟨w.heap.size, 2, w.heap.size + 1, wr.heap.size, rfl, ?_, ?_, ?_, ?_, by omega, by omega, by omega, by omega, by simp only [init, List.length_cons, List.length_nil]; omega⟩, ?_, ?_⟩
        · have := Blk.new (wr.alloc (.cells #[.int .i64 (b - 2)] 103)) 84 #[.slice (some ⟨w.heap.size, 0, none⟩) 2 2, .map (some (w.heap.size + 1)), .pointer (some ⟨wr.heap.size, 0, none⟩)]
          simpa [init] using this
        · exact RowAt.of_blk ((b1.alloc _).alloc _) (by simp [init]) (by unfold maxLen; omega) rfl (by simp [init, Gt.cs])
        · exact (m1.alloc _).alloc _
        · exact (Blk.new _ _ _).alloc _
        · exact (f1.trans1 (Frame.alloc _ _ _)).trans1 (Frame.alloc _ _ _)
        · simp; omega
      · have HR := Lib.hid h2
        clear h2
        go_wp2_with fail
        refine (newMeter_any _ _ (by omega)).mono ?_
        rintro e w2 ⟨rfl, rfl⟩
        go_wp2_with fail
        go_ret
        rw [HR.out]
        refine ⟨wr.heap.size + 1, rfl, [wr.heap.size + 1, w.heap.size, w.heap.size + 1, wr.heap.size], ⟨w.heap.size, 2, w.heap.size + 1, wr.heap.size, rfl, ?_, ?_, ?_, ?_, by omega, by omega, by omega, by omega, by simp only [init, List.length_cons, List.length_nil]; omega⟩, ?_, ?_⟩
        · have := Blk.new (wr.alloc (.cells #[.int .i64 1073741822] 103)) 84 #[.slice (some ⟨w.heap.size, 0, none⟩) 2 2, .map (some (w.heap.size + 1)), .pointer (some ⟨wr.heap.size, 0, none⟩)]
          simpa [init] using this
        · exact RowAt.of_blk ((b1.alloc _).alloc _) (by simp [init]) (by unfold maxLen; omega) rfl (by simp [init, Gt.cs])
        · exact (m1.alloc _).alloc _
        · exact (Blk.new _ _ _).alloc _
        · exact (f1.trans1 (Frame.alloc _ _ _)).trans1 (Frame.alloc _ _ _)
        · simp; omega

end Go.Proofs.Ytbnhhmejlglbcaa

