/- circ: Sum, Gate. -/
import Derived.Test.YtolkmapdbilolaaOps
namespace Go.Proofs.Ytolkmapdbilolaa
open Go.RowKit
set_option linter.unusedSimpArgs false
set_option linter.unusedVariables false

def mkSum : List Int → Int → List Gt → Int → (Int × Int) × List Gt × Int
  | [], acc, l, left => ((acc, 0), l, left)
  | k :: ks, acc, l, left =>
    if (mkPlus acc k l left).1.2 = 0 then mkSum ks (mkPlus acc k l left).1.1 (mkPlus acc k l left).2.1 (mkPlus acc k l left).2.2
    else ((0, (mkPlus acc k l left).1.2), (mkPlus acc k l left).2.1, (mkPlus acc k l left).2.2)

theorem mkPlus_len (a b : Int) (l : List Gt) (left : Int) (h : 0 < l.length) : 0 < (mkPlus a b l left).2.1.length := by
  unfold mkPlus put
  repeat' split
  all_goals first | exact h | (simp; done) | (simp; omega)

/-- Apart from a store's blocks. -/
def RdI.Apart (a : Option Addr) (F : List Nat) : Prop := ∀ b off, a = some ⟨b, off, none⟩ → b ∉ F
theorem RdI.frameS {w w' : World} {S : List Nat} {a : Option Addr} {xs : List Int} (h : RdI w a xs) (f : Frame S w w') (hS : RdI.Apart a S) : RdI w' a xs := by
  rcases h with h | ⟨b, off, h1, h2, h3⟩
  · exact .inl h
  · exact .inr ⟨b, off, h1, Nat.lt_of_lt_of_le h2 f.size, fun k h => f.cell (h3 k h) (hS b off h1)⟩

theorem StEnd.start {w : World} {pb : Nat} {F : List Nat} {l : List Gt} {left : Int} (h : St w pb F l left) : StEnd w pb F l left w := StEnd.self h (Frame.refl _ _)
theorem StEnd.comp {w w1 w' : World} {pb : Nat} {F F1 : List Nat} {l : List Gt} {left : Int} (b : Frame F w w1) (c : Grow F F1 w) (h : StEnd w1 pb F1 l left w') : StEnd w pb F l left w' := by
  obtain ⟨F2, a', b', c'⟩ := h
  exact ⟨F2, a', b.trans b' c, fun x hx => by
    rcases c' x hx with h | h
    · exact c x h
    · right; have := b.size; omega⟩

theorem sum_any' (pb : Nat) (F : List Nat) (l : List Gt) (left : Int) (a : Option Addr) (cap : Nat) (xs : List Int) (w : World) (h : St w pb F l left) (h0 : 0 < l.length)
    (hx : RdI w a xs) (hap : xs ≠ [] → RdI.Apart a F) (hl : xs.length ≤ 1073741824) :
    Calls Try.prog 25 #[.pointer (some ⟨pb, 0, none⟩), .slice a xs.length cap] w fun e w' =>
      e = .returned (.tuple #[.int .i64 (mkSum xs 0 l left).1.1, .int .i64 (mkSum xs 0 l left).1.2]) ∧ StEnd w pb F (mkSum xs 0 l left).2.1 (mkSum xs 0 l left).2.2 w' := by
  have H := Lib.hid h
  have HX := Lib.hid hx
  have HA := Lib.hid hap
  clear h hx hap
  generalize hr : mkSum xs 0 l left = r
  have HR := Lib.hid hr
  clear hr
  have hz : ((l.length : Int) == 0) = false := by simp; intro e; subst e; simp at h0
  go_enter Try.func25, Try.ntmps25
  go_wp2_with fail
  refine (len_any pb F l left _ H.out).mono ?_
  rintro e w' ⟨rfl, rfl⟩
  go_wp2_with fail
  go_loopw [6, 16] (fun acc i wr => ∃ (k : Nat) (x : Int) (l' : List Gt) (left' : Int), k ≤ xs.length ∧ i = .int .i64 k ∧ acc = .int .i64 x ∧ Hid (StEnd w' pb F l' left' wr ∧ 0 < l'.length ∧ mkSum (xs.drop k) x l' left' = r)) (fun _ i _ => xs.length - (intOf i).toNat)
  case atStart => exact ⟨0, 0, l, left, Nat.zero_le _, rfl, rfl, StEnd.start H.out, h0, HR.out⟩
  case round =>
    obtain ⟨k, x, l', left', hk, rfl, rfl, hq⟩ := hrel
    by_cases hlt : k < xs.length
    · obtain ⟨b, off, rfl, hc⟩ : ∃ b off, a = some ⟨b, off, none⟩ ∧ wr.cell? ⟨b, off + k, none⟩ = some (.int .i64 xs[k]) := by
        obtain ⟨F', _, q2, _⟩ := hq.out.1
        exact (HX.out.frameS q2 (HA.out (by intro e; rw [e] at hlt; simp at hlt))).at hlt
      obtain ⟨F', q1, q2, q3⟩ := hq.out.1
      have hm : Hid (mkSum (xs.drop k) x l' left' = r) := hq.out.2.2
      rw [List.drop_eq_getElem_cons hlt, mkSum] at hm
      have hp := plus_any pb F' l' left' x xs[k] wr q1 hq.out.2.1
      have hln := mkPlus_len x xs[k] l' left' hq.out.2.1
      generalize mkPlus x xs[k] l' left' = p at *
      have HP := Lib.hid hp
      have HL := Lib.hid hln
      have Q := Lib.hid (And.intro q2 q3)
      clear hp hln q1 q2 q3
      go_wp2_with fail
      refine HP.out.mono ?_
      rintro e w2 ⟨rfl, f2⟩
      have F2 := Lib.hid (StEnd.comp Q.out.1 Q.out.2 f2)
      clear f2
      by_cases he : p.1.2 = 0
      · have he' : (p.1.2 != 0) = false := by simp [he]
        rw [if_pos he] at hm
        clear he
        go_wp2_with fail
        go_roundw
        case rel => exact ⟨k + 1, _, _, _, by omega, by go_num, rfl, F2.out, HL.out, hm⟩
        case measure => simp [intOf]; omega
      · have he' : (p.1.2 != 0) = true := by simp [he]
        rw [if_neg he] at hm
        subst hm
        clear he
        go_wp2_with fail
        go_ret2
        exact ⟨rfl, F2.out⟩
    · have hk' : k = xs.length := by omega
      subst hk'
      have hm := hq.out.2.2
      rw [List.drop_length, mkSum] at hm
      subst hm
      have hq1 := Lib.hid hq.out.1
      go_wp2_with fail
      go_ret2
      exact ⟨rfl, hq1.out⟩
theorem sum_any (pb : Nat) (F : List Nat) (l : List Gt) (left : Int) (a : Option Addr) (cap : Nat) (xs : List Int) (w : World) (h : St w pb F l left) (h0 : 0 < l.length)
    (hx : RdI w a xs) (hap : RdI.Apart a F) (hl : xs.length ≤ 1073741824) :
    Calls Try.prog 25 #[.pointer (some ⟨pb, 0, none⟩), .slice a xs.length cap] w fun e w' =>
      e = .returned (.tuple #[.int .i64 (mkSum xs 0 l left).1.1, .int .i64 (mkSum xs 0 l left).1.2]) ∧ StEnd w pb F (mkSum xs 0 l left).2.1 (mkSum xs 0 l left).2.2 w' :=
  sum_any' pb F l left a cap xs w h h0 hx (fun _ => hap) hl

/-- The cells of gate k. -/
theorem gates_at {l : List Gt} {k : Nat} {g : Gt} (h : l[k]? = some g) : (l.flatMap Gt.cs)[k * 3]? = some (.int .i64 g.k) ∧ (l.flatMap Gt.cs)[k * 3 + 1]? = some (.int .i64 g.a) ∧ (l.flatMap Gt.cs)[k * 3 + 2]? = some (.int .i64 g.b) := by
  induction l generalizing k with
  | nil => simp at h
  | cons x t ih =>
    cases k with
    | zero => simp at h; subst h; simp [Gt.cs]
    | succ k =>
      have := ih (k := k) (by simpa using h)
      simp only [List.flatMap_cons]
      have e : ∀ j, (x.cs ++ t.flatMap Gt.cs)[(k + 1) * 3 + j]? = (t.flatMap Gt.cs)[k * 3 + j]? := by
        intro j
        rw [List.getElem?_append_right (by simp [Gt.cs]; omega)]
        congr 1
        simp [Gt.cs]; omega
      exact ⟨(e 0).trans this.1, (e 1).trans this.2.1, (e 2).trans this.2.2⟩

theorem gate_get_any (pb : Nat) (F : List Nat) (l : List Gt) (left : Int) (k : Nat) (g : Gt) (w : World) (h : St w pb F l left) (hg : l[k]? = some g) :
    Calls Try.prog 24 #[.pointer (some ⟨pb, 0, none⟩), .int .i64 k] w fun e w' => e = .returned (.tuple #[.agg #[.int .i64 g.k, .int .i64 g.a, .int .i64 g.b], .bool true]) ∧ Frame [] w w' := by
  have hkl : k < l.length := (List.getElem?_eq_some_iff.1 hg).1
  have hA : areG l.length [(k : Int)] = true := by simp [areG, notG]; omega
  have HA := Lib.hid hA
  have H := Lib.hid h
  have HG := Lib.hid hg
  clear hA h hg
  go_enter Try.func24, Try.ntmps24
  go_wp2_with fail
  have fr : Frame [] w ((w.alloc (.cells #[.int .i64 0, .int .i64 0, .int .i64 0] 39)).alloc (.cells #[.int .i64 k] 3)) := (Frame.alloc _ _ _).trans1 (Frame.alloc _ _ _)
  have bz := (Blk.new w 39 #[.int .i64 0, .int .i64 0, .int .i64 0]).alloc (.cells #[.int .i64 k] 3)
  have hrd : RdI ((w.alloc (.cells #[.int .i64 0, .int .i64 0, .int .i64 0] 39)).alloc (.cells #[.int .i64 k] 3)) (some ⟨w.heap.size + 1, 0, none⟩) [(k : Int)] := by
    simpa using RdI.one (w.alloc (.cells #[.int .i64 0, .int .i64 0, .int .i64 0] 39)) k 3
  refine (is_any (some ⟨pb, 0, none⟩) l.length _ 1 [(k : Int)] _ hrd (by simp) (H.out.frame0 fr).lens).mono ?_
  rw [HA.out]
  rintro e w1 ⟨rfl, f1⟩
  have ft := fr.trans1 f1
  have bz1 := bz.frame f1 (by simp)
  obtain ⟨lb, cap, mb, kb, -, h1, h2, -⟩ := H.out.frame0 ft
  obtain ⟨g0, g1, g2⟩ := gates_at HG.out
  have c0 := h1.at 0 rfl
  have d0 := h2.cell g0
  have d1 := h2.cell g1
  have d2 := h2.cell g2
  have z0 := bz1.at 0 rfl
  have z1 := bz1.at 1 rfl
  have z2 := bz1.at 2 rfl
  have y0 := bz1.frozen 0
  have y1 := bz1.frozen 1
  have y2 := bz1.frozen 2
  clear g0 g1 g2 hrd
  go_wp2_with fail
  have hz := bz1.lt
  refine bodyPost_ret (v := .tuple #[.agg #[.int .i64 g.k, .int .i64 g.a, .int .i64 g.b], .bool true]) ?_ rfl ⟨rfl, ?_⟩
  · have b3 := ((bz1.set 0 (.int .i64 g.k)).set 1 (.int .i64 g.a)).set 2 (.int .i64 g.b)
    have x0 := b3.at 0 rfl
    have x1 := b3.at 1 rfl
    have x2 := b3.at 2 rfl
    simp [results, Try.results24, go_sem, x0, x1, x2]
  · exact ((ft.trans (Frame.setCell (S := [w.heap.size]) _ _ _ (by simp)) (by simp)).trans (Frame.setCell (S := [w.heap.size]) _ _ _ (by simp)) (by simp)).trans (Frame.setCell (S := [w.heap.size]) _ _ _ (by simp)) (by simp)

/-- Of what is no gate's number. -/
theorem gate_get_none (q : Option Addr) (n : Nat) (k : Int) (w : World) (h : Lens w q n) (hk : notG n k = true) :
    Calls Try.prog 24 #[.pointer q, .int .i64 k] w fun e w' => e = .returned (.tuple #[.agg #[.int .i64 0, .int .i64 0, .int .i64 0], .bool false]) ∧ Frame [] w w' := by
  have HA : Hid (areG n [k] = false) := by show areG n [k] = false; simp [areG, hk]
  have H := Lib.hid h
  clear h hk
  go_enter Try.func24, Try.ntmps24
  go_wp2_with fail
  have fr : Frame [] w ((w.alloc (.cells #[.int .i64 0, .int .i64 0, .int .i64 0] 39)).alloc (.cells #[.int .i64 k] 3)) := (Frame.alloc _ _ _).trans1 (Frame.alloc _ _ _)
  have bz := (Blk.new w 39 #[.int .i64 0, .int .i64 0, .int .i64 0]).alloc (.cells #[.int .i64 k] 3)
  have hrd : RdI ((w.alloc (.cells #[.int .i64 0, .int .i64 0, .int .i64 0] 39)).alloc (.cells #[.int .i64 k] 3)) (some ⟨w.heap.size + 1, 0, none⟩) [k] := by
    simpa using RdI.one (w.alloc (.cells #[.int .i64 0, .int .i64 0, .int .i64 0] 39)) k 3
  refine (is_any q n _ 1 [k] _ hrd (by simp) (fun w' f => H.out w' (fr.trans1 f))).mono ?_
  rw [HA.out]
  rintro e w1 ⟨rfl, f1⟩
  have ft := fr.trans1 f1
  have bz1 := bz.frame f1 (by simp)
  have z0 := bz1.at 0 rfl
  have z1 := bz1.at 1 rfl
  have z2 := bz1.at 2 rfl
  have y0 := bz1.frozen 0
  have y1 := bz1.frozen 1
  have y2 := bz1.frozen 2
  clear hrd
  go_wp2_with fail
  refine bodyPost_ret (v := .tuple #[.agg #[.int .i64 0, .int .i64 0, .int .i64 0], .bool false]) ?_ rfl ⟨rfl, ?_⟩
  · have b3 := ((bz1.set 0 (.int .i64 0)).set 1 (.int .i64 0)).set 2 (.int .i64 0)
    have x0 := b3.at 0 rfl
    have x1 := b3.at 1 rfl
    have x2 := b3.at 2 rfl
    simp [results, Try.results24, go_sem, x0, x1, x2]
  · exact ((ft.trans (Frame.setCell (S := [w.heap.size]) _ _ _ (by simp)) (by simp)).trans (Frame.setCell (S := [w.heap.size]) _ _ _ (by simp)) (by simp)).trans (Frame.setCell (S := [w.heap.size]) _ _ _ (by simp)) (by simp)

end Go.Proofs.Ytolkmapdbilolaa
