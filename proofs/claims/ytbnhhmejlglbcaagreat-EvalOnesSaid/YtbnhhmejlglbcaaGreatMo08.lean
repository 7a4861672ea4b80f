/- circ: Sum, Gate. -/
import Derived.Test.YtbnhhmejlglbcaaGreatMo07
namespace Go.Proofs.YtbnhhmejlglbcaaGreat
open Go.RowKit
set_option linter.unusedSimpArgs false
set_option linter.unusedVariables false

def mkSum : List Int → Int → List Gt → Int → (Int × Int) × List Gt × Int
  | [], acc, l, left => ((acc, 0), l, left)
  | k :: ks, acc, l, left =>
    if (mkPlus acc k l left).1.2 = 0 then mkSum ks (mkPlus acc k l left).1.1 (mkPlus acc k l left).2.1 (mkPlus acc k l left).2.2
    else ((0, (mkPlus acc k l left).1.2), (mkPlus acc k l left).2.1, (mkPlus acc k l left).2.2)

theorem mkPlus_len (a b : Int) (l : List Gt) (left : Int) (h : 0 < l.length) : 0 < (mkPlus a b l left).2.1.length := by
  unfold mkPlus put
  repeat' split
  all_goals first | exact h | (simp; done) | (simp; omega)

/-- Apart from a store's blocks. -/
def RdI.Apart (a : Option Addr) (F : List Nat) : Prop := ∀ b off, a = some ⟨b, off, none⟩ → b ∉ F
theorem RdI.frameS {w w' : World} {S : List Nat} {a : Option Addr} {xs : List Int} (h : RdI w a xs) (f : Frame S w w') (hS : RdI.Apart a S) : RdI w' a xs := by
  rcases h with h | ⟨b, off, h1, h2, h3⟩
  · exact .inl h
  · exact .inr ⟨b, off, h1, Nat.lt_of_lt_of_le h2 f.size, fun k h => f.cell (h3 k h) (hS b off h1)⟩

theorem StEnd.start {w : World} {pb : Nat} {F : List Nat} {l : List Gt} {left : Int} (h : St w pb F l left) : StEnd w pb F l left w := StEnd.self h (Frame.refl _ _)
theorem StEnd.comp {w w1 w' : World} {pb : Nat} {F F1 : List Nat} {l : List Gt} {left : Int} (b : Frame F w w1) (c : Grow F F1 w) (h : StEnd w1 pb F1 l left w') : StEnd w pb F l left w' := by
  obtain ⟨F2, a', b', c'⟩ := h
  exact ⟨F2, a', b.trans b' c, fun x hx => by
    rcases c' x hx with h | h
    · exact c x h
    · right; have := b.size; omega⟩

/-- The cells of gate k. -/
theorem gates_at {l : List Gt} {k : Nat} {g : Gt} (h : l[k]? = some g) : (l.flatMap Gt.cs)[k * 3]? = some (.int .i64 g.k) ∧ (l.flatMap Gt.cs)[k * 3 + 1]? = some (.int .i64 g.a) ∧ (l.flatMap Gt.cs)[k * 3 + 2]? = some (.int .i64 g.b) := by
  induction l generalizing k with
  | nil => simp at h
  | cons x t ih =>
    cases k with
    | zero => simp at h; subst h; simp [Gt.cs]
    | succ k =>
      have := ih (k := k) (by simpa using h)
      simp only [List.flatMap_cons]
      have e : ∀ j, (x.cs ++ t.flatMap Gt.cs)[(k + 1) * 3 + j]? = (t.flatMap Gt.cs)[k * 3 + j]? := by
        intro j
        rw [List.getElem?_append_right (by simp [Gt.cs]; omega)]
        congr 1
        simp [Gt.cs]; omega
      exact ⟨(e 0).trans this.1, (e 1).trans this.2.1, (e 2).trans this.2.2⟩

theorem gate_get_any (pb : Nat) (F : List Nat) (l : List Gt) (left : Int) (k : Nat) (g : Gt) (w : World) (h : St w pb F l left) (hg : l[k]? = some g) :
    Calls Tryz.prog 65 #[.pointer (some ⟨pb, 0, none⟩), .int .i64 k] w fun e w' => e = .returned (.tuple #[.agg #[.int .i64 g.k, .int .i64 g.a, .int .i64 g.b], .bool true]) ∧ Frame [] w w' := by
  have hkl : k < l.length := (List.getElem?_eq_some_iff.1 hg).1
  have hA : areG l.length [(k : Int)] = true := by simp [areG, notG]; omega
  have HA := Lib.hid hA
  have H := Lib.hid h
  have HG := Lib.hid hg
  clear hA h hg
  go_enter Tryz.func65, Tryz.ntmps65
  go_wp2_with fail
  have fr : Frame [] w ((w.alloc (.cells #[.int .i64 0, .int .i64 0, .int .i64 0] 112)).alloc (.cells #[.int .i64 k] 3)) := (Frame.alloc _ _ _).trans1 (Frame.alloc _ _ _)
  have bz := (Blk.new w 112 #[.int .i64 0, .int .i64 0, .int .i64 0]).alloc (.cells #[.int .i64 k] 3)
  have hrd : RdI ((w.alloc (.cells #[.int .i64 0, .int .i64 0, .int .i64 0] 112)).alloc (.cells #[.int .i64 k] 3)) (some ⟨w.heap.size + 1, 0, none⟩) [(k : Int)] := by
    simpa using RdI.one (w.alloc (.cells #[.int .i64 0, .int .i64 0, .int .i64 0] 112)) k 3
  refine (is_any (some ⟨pb, 0, none⟩) l.length _ 1 [(k : Int)] _ hrd (by simp) (H.out.frame0 fr).lens).mono ?_
  rw [HA.out]
  rintro e w1 ⟨rfl, f1⟩
  have ft := fr.trans1 f1
  have bz1 := bz.frame f1 (by simp)
  obtain ⟨lb, cap, mb, kb, -, h1, h2, -⟩ := H.out.frame0 ft
  obtain ⟨g0, g1, g2⟩ := gates_at HG.out
  have c0 := h1.at 0 rfl
  have d0 := h2.cell g0
  have d1 := h2.cell g1
  have d2 := h2.cell g2
  have z0 := bz1.at 0 rfl
  have z1 := bz1.at 1 rfl
  have z2 := bz1.at 2 rfl
  have y0 := bz1.frozen 0
  have y1 := bz1.frozen 1
  have y2 := bz1.frozen 2
  clear g0 g1 g2 hrd
  go_wp2_with fail
  have hz := bz1.lt
  refine bodyPost_ret (v := .tuple #[.agg #[.int .i64 g.k, .int .i64 g.a, .int .i64 g.b], .bool true]) ?_ rfl ⟨rfl, ?_⟩
  · have b3 := ((bz1.set 0 (.int .i64 g.k)).set 1 (.int .i64 g.a)).set 2 (.int .i64 g.b)
    have x0 := b3.at 0 rfl
    have x1 := b3.at 1 rfl
    have x2 := b3.at 2 rfl
    simp [results, Tryz.results65, go_sem, x0, x1, x2]
  · exact ((ft.trans (Frame.setCell (S := [w.heap.size]) _ _ _ (by simp)) (by simp)).trans (Frame.setCell (S := [w.heap.size]) _ _ _ (by simp)) (by simp)).trans (Frame.setCell (S := [w.heap.size]) _ _ _ (by simp)) (by simp)

/-- Of what is no gate's number. -/
theorem gate_get_none (q : Option Addr) (n : Nat) (k : Int) (w : World) (h : Lens w q n) (hk : notG n k = true) :
    Calls Tryz.prog 65 #[.pointer q, .int .i64 k] w fun e w' => e = .returned (.tuple #[.agg #[.int .i64 0, .int .i64 0, .int .i64 0], .bool false]) ∧ Frame [] w w' := by
  have HA : Hid (areG n [k] = false) := by show areG n [k] = false; simp [areG, hk]
  have H := Lib.hid h
  clear h hk
  go_enter Tryz.func65, Tryz.ntmps65
  go_wp2_with fail
  have fr : Frame [] w ((w.alloc (.cells #[.int .i64 0, .int .i64 0, .int .i64 0] 112)).alloc (.cells #[.int .i64 k] 3)) := (Frame.alloc _ _ _).trans1 (Frame.alloc _ _ _)
  have bz := (Blk.new w 112 #[.int .i64 0, .int .i64 0, .int .i64 0]).alloc (.cells #[.int .i64 k] 3)
  have hrd : RdI ((w.alloc (.cells #[.int .i64 0, .int .i64 0, .int .i64 0] 112)).alloc (.cells #[.int .i64 k] 3)) (some ⟨w.heap.size + 1, 0, none⟩) [k] := by
    simpa using RdI.one (w.alloc (.cells #[.int .i64 0, .int .i64 0, .int .i64 0] 112)) k 3
  refine (is_any q n _ 1 [k] _ hrd (by simp) (fun w' f => H.out w' (fr.trans1 f))).mono ?_
  rw [HA.out]
  rintro e w1 ⟨rfl, f1⟩
  have ft := fr.trans1 f1
  have bz1 := bz.frame f1 (by simp)
  have z0 := bz1.at 0 rfl
  have z1 := bz1.at 1 rfl
  have z2 := bz1.at 2 rfl
  have y0 := bz1.frozen 0
  have y1 := bz1.frozen 1
  have y2 := bz1.frozen 2
  clear hrd
  go_wp2_with fail
  refine bodyPost_ret (v := .tuple #[.agg #[.int .i64 0, .int .i64 0, .int .i64 0], .bool false]) ?_ rfl ⟨rfl, ?_⟩
  · have b3 := ((bz1.set 0 (.int .i64 0)).set 1 (.int .i64 0)).set 2 (.int .i64 0)
    have x0 := b3.at 0 rfl
    have x1 := b3.at 1 rfl
    have x2 := b3.at 2 rfl
    simp [results, Tryz.results65, go_sem, x0, x1, x2]
  · exact ((ft.trans (Frame.setCell (S := [w.heap.size]) _ _ _ (by simp)) (by simp)).trans (Frame.setCell (S := [w.heap.size]) _ _ _ (by simp)) (by simp)).trans (Frame.setCell (S := [w.heap.size]) _ _ _ (by simp)) (by simp)

end Go.Proofs.YtbnhhmejlglbcaaGreat

