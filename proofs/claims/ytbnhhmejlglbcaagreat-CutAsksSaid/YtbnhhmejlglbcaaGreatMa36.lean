/- tansylaw15.awake. A step of three numbers that is read as data. -/
import Derived.Test.YtbnhhmejlglbcaaGreatMa26
import Derived.Test.YtbnhhmejlglbcaaGreatMa31
import Derived.Test.YtbnhhmejlglbcaaGreatMa34
import Derived.Test.YtbnhhmejlglbcaaGreatMa35
import Derived.Test.YtbnhhmejlglbcaaGreatMa32
import Derived.Lib.SmallJoins
namespace Go.Proofs.YtbnhhmejlglbcaaGreat
open Go.RowKit
set_option linter.unusedSimpArgs false
set_option linter.unusedVariables false

def st15 : List St3 := [⟨1, 0, 0⟩, ⟨1, 1, 0⟩, ⟨2, 2, 3⟩]
def gt15 : List Gt := gatesM st15
theorem gt15_facts : gt15.length = 5 ∧ (cutV (fun t => decide (t ∈ [1])) gt15 (reach gt15 4) (room 10)).e = 0 ∧ (cutV (fun t => decide (t ∈ [1])) gt15 (reach gt15 4) (room 10)).bm 4 = 2 ∧ (cutV (fun t => decide (t ∈ [1])) gt15 (reach gt15 4) (room 10)).l.length = 3 ∧ leastV gt15 4 [1, 2] = [2] := by decide +kernel

theorem rdI_rf {w : World} {a : Option Addr} {xs : List Int} (h : RdI w a xs) : RF (fun _ => True) w 1 encI a xs := fun k x hx => by
  obtain ⟨hk, rfl⟩ := List.getElem?_eq_some_iff.1 hx
  obtain ⟨b, off, h1, h2⟩ := h.at hk
  refine ⟨b, off, h1, trivial, fun j u hu => ?_⟩
  match j, hu with
  | 0, hu =>
    have : u = .int .i64 xs[k] := by simpa [encI] using hu.symm
    rw [this, Nat.mul_one, Nat.add_zero]
    exact h2
  | j + 1, hu => simp [encI] at hu
theorem st15_row (w : World) : RdS (w.alloc (.cells #[.int .i64 1, .int .i64 0, .int .i64 0, .int .i64 1, .int .i64 1, .int .i64 0, .int .i64 2, .int .i64 2, .int .i64 3] 130)) 3 St3.enc St3.ok (some ⟨w.heap.size, 0, none⟩) st15 := by
  have h := Blk.new w 130 #[.int .i64 1, .int .i64 0, .int .i64 0, .int .i64 1, .int .i64 1, .int .i64 0, .int .i64 2, .int .i64 2, .int .i64 3]
  refine .inr ⟨w.heap.size, 0, rfl, by simp, fun k hk => ⟨fun j u hu => ?_, ?_⟩⟩
  · match k, hk, j, hu with
    | 0, _, 0, hu => exact (h.cell 0).trans hu
    | 0, _, 1, hu => exact (h.cell 1).trans hu
    | 0, _, 2, hu => exact (h.cell 2).trans hu
    | 1, _, 0, hu => exact (h.cell 3).trans hu
    | 1, _, 1, hu => exact (h.cell 4).trans hu
    | 1, _, 2, hu => exact (h.cell 5).trans hu
    | 2, _, 0, hu => exact (h.cell 6).trans hu
    | 2, _, 1, hu => exact (h.cell 7).trans hu
    | 2, _, 2, hu => exact (h.cell 8).trans hu
    | 0, _, j + 3, hu => simp [st15, St3.enc] at hu
    | 1, _, j + 3, hu => simp [st15, St3.enc] at hu
    | 2, _, j + 3, hu => simp [st15, St3.enc] at hu
    | k + 3, hk, _, _ => exact absurd hk (by simp [st15])
  · match k, hk with
    | 0, _ => simp [st15, St3.ok, okI]
    | 1, _ => simp [st15, St3.ok, okI]
    | 2, _ => simp [st15, St3.ok, okI]
    | k + 3, hk => exact absurd hk (by simp [st15])

set_option maxHeartbeats 4000000 in
set_option maxRecDepth 100000 in
theorem awake15 (w : World) : Calls Tryz.prog 29 #[] w fun e w' => e = .returned (.bool true) ∧ Frame [] w w' := by
  obtain ⟨p1, p2, p3, p4, p5⟩ := gt15_facts
  have hMA := fun w' a hx => made15_any a 3 st15 w' hx (by decide)
  have hok : MOk (gatesM st15) 3 := gatesM_ok st15
  have HOK := Lib.hid hok
  have e15 : gatesM st15 = gt15 := rfl
  rw [e15] at HOK hMA
  generalize gt15 = l at *
  have MA := Lib.hid hMA
  have P := Lib.hid (And.intro p1 (And.intro p2 (And.intro p3 (And.intro p4 p5))))
  clear hMA hok e15 p1 p2 p3 p4 p5
  go_enter Tryz.func29, Tryz.ntmps29
  go_wp2_with fail
  refine (MA.out _ (some ⟨w.heap.size, 0, none⟩) (st15_row w)).mono ?_
  rintro e w2 ⟨pb, rb, rfl, b2⟩
  obtain ⟨F, F2, s2, -, f2, n2, -⟩ := b2
  have A := Lib.hid (And.intro s2 (And.intro f2 n2))
  clear s2 f2 n2 MA
  have RS := Lib.hid (fun w' (f : Frame [] w2 w') a (h : RdI w' a [1]) (hb : ∀ b off, a = some ⟨b, off, none⟩ → b < w'.heap.size) => restrict_any pb F l (1000 - l.length) HOK.out.inv 4 (by have := P.out.1; omega) (by have := P.out.1; omega) 10 a 1 [1] (by simp) w' (A.out.1.frame0 f) h (fun _ => hb))
  have LS := Lib.hid (fun w' (f : Frame [] w2 w') a (h : RdI w' a [1, 2]) => cutLeast_any pb F l (1000 - l.length) HOK.out.inv 4 (by have := P.out.1; omega) (by have := P.out.1; omega) a 2 [1, 2] w' (A.out.1.frame0 f) h (by simp))
  go_wp2_with fail
  refine (RS.out _ (Frame.alloc _ _ _) (some ⟨w2.heap.size, 0, none⟩) (RdI.one _ _ _) (fun b off e => by simp at e; rw [World.size_alloc]; omega)).mono ?_
  rintro e w3 ⟨hr, -, f3⟩
  obtain ⟨qb, Q, rfl, s3, -⟩ := hr P.out.2.1
  rw [P.out.2.2.1]
  have F3 := Lib.hid ((Frame.alloc [] w2 (.cells #[.int .i64 1] 3)).trans1 f3)
  have LN := Lib.hid s3.lens
  rw [P.out.2.2.2.1] at LN
  clear hr f3 s3 RS
  go_wp2_with fail
  refine (LN.out _ (Frame.refl _ _)).mono ?_
  rintro e w4 ⟨rfl, rfl⟩
  go_wp2_with fail
  refine (LS.out _ (F3.out.trans1 (Frame.alloc _ _ _)) (some ⟨w4.heap.size, 0, none⟩) (RdI.two _ _ _ _)).mono ?_
  rintro e w5 ⟨a5, c5, rfl, r5, f5, -, -⟩
  rw [P.out.2.2.2.2] at r5 ⊢
  have F5 := Lib.hid (F3.out.trans1 ((Frame.alloc [] w4 (.cells #[.int .i64 1, .int .i64 2] 3)).trans1 f5))
  have R5 := Lib.hid r5
  clear f5 r5 LS
  go_wp2_with fail
  refine (Ans.yes (ints_any (fun _ => True) (fun _ => True) a5 (some ⟨w5.heap.size, 0, none⟩) c5 1 [2] [2] _ (rdI_rf (R5.out.frame (Frame.alloc _ _ _))) (rdI_rf (RdI.one _ _ _)) (by simp) (by simp)) rfl).mono ?_
  rintro e w6 ⟨rfl, f6⟩
  go_wp2_with fail
  go_ret
  exact ⟨rfl, ((Frame.alloc [] w _).trans1 A.out.2.1).trans1 (F5.out.trans1 ((Frame.alloc [] w5 _).trans1 f6))⟩
end Go.Proofs.YtbnhhmejlglbcaaGreat

namespace Go.Proofs.YtbnhhmejlglbcaaGreat
open Go.RowKit Go.ChangeShapes Go.WideShapes Go.ChangeAt
set_option linter.unusedSimpArgs false
set_option linter.unusedVariables false

theorem cut3 {α : Type} {cs : List α} (h : cs.length = 3) : ∃ a b c, cs = [a, b, c] := by
  match cs, h with
  | [a, b, c], _ => exact ⟨a, b, c, rfl⟩
theorem elem_st15 {H : Type} {encH : TypeId × Value → H} {w : World} {spare : Nat → Bool} {held : Bool} {n : Nat} {cs : List Value} {y : DataW H × List MemPlace} (h : DataW.trod encH Tryz.prog w 0 spare held n 130 cs = some y) :
    ∃ z : St3, cs = z.enc ∧ z.ok w := by
  obtain ⟨xs, m, _, _, hl, hlen, hf⟩ := DataW.trod_struct Tryz.underlying130 h
  rw [show Tryz.prog.cellsOf 130 = 3 from by kernel_rfl] at hl
  obtain ⟨c0, c1, c2, rfl⟩ := cut3 hl
  obtain ⟨y0, y1, y2, rfl⟩ := cut3 (show xs.length = 3 from hlen)
  clear hl h
  have hi : Tryz.prog.cellsOf 3 = 1 := by kernel_rfl
  have f0 := hf 0 _ rfl
  have f1 := hf 1 _ rfl
  have f2 := hf 2 _ rfl
  clear hf
  simp [hi] at f0 f1 f2
  obtain ⟨x0, q0, w0⟩ := elem_int Tryz.underlying3 f0
  obtain ⟨x1, q1, w1⟩ := elem_int Tryz.underlying3 f1
  obtain ⟨x2, q2, w2⟩ := elem_int Tryz.underlying3 f2
  simp at q0 q1 q2
  subst q0 q1 q2
  exact ⟨⟨x0, x1, x2⟩, rfl, w0, w1, w2⟩
theorem elem_st14 {H : Type} {encH : TypeId × Value → H} {w : World} {spare : Nat → Bool} {held : Bool} {n : Nat} {cs : List Value} {y : DataW H × List MemPlace} (h : DataW.trod encH Tryz.prog w 0 spare held n 96 cs = some y) :
    ∃ z : St3, cs = z.enc ∧ z.ok w := by
  obtain ⟨xs, m, _, _, hl, hlen, hf⟩ := DataW.trod_struct Tryz.underlying96 h
  rw [show Tryz.prog.cellsOf 96 = 3 from by kernel_rfl] at hl
  obtain ⟨c0, c1, c2, rfl⟩ := cut3 hl
  obtain ⟨y0, y1, y2, rfl⟩ := cut3 (show xs.length = 3 from hlen)
  clear hl h
  have hi : Tryz.prog.cellsOf 3 = 1 := by kernel_rfl
  have f0 := hf 0 _ rfl
  have f1 := hf 1 _ rfl
  have f2 := hf 2 _ rfl
  clear hf
  simp [hi] at f0 f1 f2
  obtain ⟨x0, q0, w0⟩ := elem_int Tryz.underlying3 f0
  obtain ⟨x1, q1, w1⟩ := elem_int Tryz.underlying3 f1
  obtain ⟨x2, q2, w2⟩ := elem_int Tryz.underlying3 f2
  simp at q0 q1 q2
  subst q0 q1 q2
  exact ⟨⟨x0, x1, x2⟩, rfl, w0, w1, w2⟩
theorem wf_okI {k : Int} (hk : (Lit.int .i64 k).wf = true) (w : World) : okI w k := by
  simp [Lit.wf, IntKind.min, IntKind.max, IntKind.signed, IntKind.bits] at hk
  unfold okI
  omega
theorem rdI_lt {w : World} {a : Option Addr} {xs : List Int} (h : RdI w a xs) (h0 : xs ≠ []) : ∀ b off, a = some ⟨b, off, none⟩ → b < w.heap.size := by
  intro b off e
  rcases h with h | ⟨b', off', h1, h2, _⟩
  · exact absurd h h0
  · rw [h1] at e
    simp at e
    omega
end Go.Proofs.YtbnhhmejlglbcaaGreat

