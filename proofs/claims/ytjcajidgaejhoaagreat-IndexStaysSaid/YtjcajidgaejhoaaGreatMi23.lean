/- A graph that is handed in, read as data. tansylaw10: steps, and small. tansylaw10's steps and a filter, read as data. -/
import Derived.Test.YtjcajidgaejhoaaGreatMi21
import Derived.Test.YtjcajidgaejhoaaGreatMi22
import Derived.Lib.SmallJoins
namespace Go.Proofs.YtjcajidgaejhoaaGreat
open Go.RowKit Go.ChangeShapes Go.WideShapes Go.ChangeAt
set_option linter.unusedSimpArgs false
set_option linter.unusedVariables false

theorem cutn3 {α : Type} {cs : List α} (h : cs.length = 3) : ∃ a b c, cs = [a, b, c] := by
  match cs, h with
  | [a, b, c], _ => exact ⟨a, b, c, rfl⟩
theorem cutn2 {α : Type} {cs : List α} (h : cs.length = 2) : ∃ a b, cs = [a, b] := by
  match cs, h with
  | [a, b], _ => exact ⟨a, b, rfl⟩
theorem cutn4 {α : Type} {cs : List α} (h : cs.length = 4) : ∃ a b c d, cs = [a, b, c, d] := by
  match cs, h with
  | [a, b, c, d], _ => exact ⟨a, b, c, d, rfl⟩
theorem cells_int1 : Tryz.prog.cellsOf 3 = 1 := by kernel_rfl
theorem cells_str1 : Tryz.prog.cellsOf 9 = 1 := by kernel_rfl
theorem cells_strs1 : Tryz.prog.cellsOf 38 = 1 := by kernel_rfl
theorem cells_props1 : Tryz.prog.cellsOf 39 = 1 := by kernel_rfl
theorem cells_nodes1 : Tryz.prog.cellsOf 22 = 1 := by kernel_rfl
theorem cells_edges1 : Tryz.prog.cellsOf 23 = 1 := by kernel_rfl
theorem cells_prop2 : Tryz.prog.cellsOf 67 = 2 := by kernel_rfl
theorem cells_edge4 : Tryz.prog.cellsOf 44 = 4 := by kernel_rfl
theorem cells_node3 : Tryz.prog.cellsOf 41 = 3 := by kernel_rfl
theorem cells_graph3 : Tryz.prog.cellsOf 25 = 3 := by kernel_rfl

theorem RdS.rf {α : Type} {w : World} {sz : Nat} {enc : α → List Value} {ok : World → α → Prop} {a : Option Addr} {xs : List α} (h : RdS w sz enc ok a xs) : RF (fun b => b < w.heap.size) w sz enc a xs := fun k x hx => by
  rcases h with h | ⟨b, off, h1, h2, h3⟩
  · subst h; simp at hx
  · obtain ⟨hk, rfl⟩ := List.getElem?_eq_some_iff.1 hx
    exact ⟨b, off, h1, h2, (h3 k hk).1⟩
section
variable {H : Type} {encH : TypeId × Value → H} {w : World} {spare : Nat → Bool} {held : Bool}
def okStr (_ : World) (s : ByteArray) : Prop := s.size ≤ 9223372036854775807
theorem elem_str {n : Nat} {cs : List Value} {y : DataW H × List MemPlace} (h : DataW.trod encH Tryz.prog w 0 spare held n 9 cs = some y) : ∃ s, cs = encS s ∧ okStr w s := by
  obtain ⟨s, rfl, _, hs⟩ := DataW.trod_string Tryz.underlying9 h
  exact ⟨s, rfl, by unfold maxLen at hs; unfold okStr; omega⟩
def okPr (_ : World) (p : Pr) : Prop := p.name.size ≤ 9223372036854775807 ∧ p.val.size ≤ 9223372036854775807
theorem elem_prop {n : Nat} {cs : List Value} {y : DataW H × List MemPlace} (h : DataW.trod encH Tryz.prog w 0 spare held n 67 cs = some y) : ∃ p : Pr, cs = p.cs ∧ okPr w p := by
  obtain ⟨xs, m, _, _, hl, hlen, hf⟩ := DataW.trod_struct Tryz.underlying67 h
  rw [cells_prop2] at hl
  obtain ⟨c0, c1, rfl⟩ := cutn2 hl
  obtain ⟨y0, y1, rfl⟩ := cutn2 (show xs.length = 2 from hlen)
  have f0 := hf 0 _ rfl
  have f1 := hf 1 _ rfl
  simp [cells_str1] at f0 f1
  obtain ⟨s, hs, o1⟩ := elem_str f0
  obtain ⟨t, ht, o2⟩ := elem_str f1
  simp [encS] at hs ht
  subst hs ht
  exact ⟨⟨s, t⟩, rfl, o1, o2⟩
def okEd (_ : World) (e : Ed) : Prop := e.lab.size ≤ 9223372036854775807
theorem elem_edge {n : Nat} {cs : List Value} {y : DataW H × List MemPlace} (h : DataW.trod encH Tryz.prog w 0 spare held n 44 cs = some y) : ∃ e : Ed, cs = e.cs ∧ okEd w e := by
  obtain ⟨xs, m, _, _, hl, hlen, hf⟩ := DataW.trod_struct Tryz.underlying44 h
  rw [cells_edge4] at hl
  obtain ⟨c0, c1, c2, c3, rfl⟩ := cutn4 hl
  obtain ⟨y0, y1, y2, y3, rfl⟩ := cutn4 (show xs.length = 4 from hlen)
  have f0 := hf 0 _ rfl
  have f1 := hf 1 _ rfl
  have f2 := hf 2 _ rfl
  have f3 := hf 3 _ rfl
  simp [cells_int1, cells_str1] at f0 f1 f2 f3
  obtain ⟨x0, q0, _⟩ := elem_int Tryz.underlying3 f0
  obtain ⟨x1, q1, _⟩ := elem_int Tryz.underlying3 f1
  obtain ⟨s, q2, o2⟩ := elem_str f2
  obtain ⟨x3, q3, _⟩ := elem_int Tryz.underlying3 f3
  simp [encS] at q0 q1 q2 q3
  subst q0 q1 q2 q3
  exact ⟨⟨x0, x1, s, x3⟩, rfl, o2⟩
/-- A slice cell, opened. -/
theorem open_cell {α : Type} {t e sz fuel : Nat} {c : Value} {x : DataW H × List MemPlace} (enc : α → List Value) (ok : World → α → Prop) (ht : Tryz.prog.underlying t = some (.slice e)) (hsz : Tryz.prog.cellsOf e = sz) (h0 : 0 < sz)
    (elem : ∀ n cs y, DataW.trod encH Tryz.prog w 0 spare held n e cs = some y → ∃ z : α, cs = enc z ∧ ok w z) (h : DataW.trod encH Tryz.prog w 0 spare held fuel t [c] = some x) :
    ∃ (a : Option Addr) (l : List α) (cap : Nat), c = .slice a l.length cap ∧ RdS w sz enc ok a l ∧ l.length ≤ 9223372036854775807 := by
  rcases Deep.open_slice ht h with ⟨hc, _⟩ | ⟨a, len, cap, m, n, D, Pl, hc, _⟩
  · simp at hc; subst hc
    exact ⟨none, [], 0, rfl, .inl rfl, by simp⟩
  · simp at hc; subst hc
    obtain ⟨l, rfl, rd, le, mx⟩ := open_list enc ok ht hsz h0 elem h
    exact ⟨some a, l, cap, rfl, rd, by unfold maxLen at mx; omega⟩
/-- A node that is handed in. -/
structure An where
  nd : Nd
  ls : List ByteArray
  ps : List Pr
def An.enc (z : An) : List Value := z.nd.cs
def An.ok (w : World) (z : An) : Prop := z.nd.ln = z.ls.length ∧ z.nd.pn = z.ps.length ∧ RdS w 1 encS okStr z.nd.la z.ls ∧ RdS w 2 Pr.cs okPr z.nd.pa z.ps ∧ z.ls.length ≤ 9223372036854775807 ∧ z.ps.length ≤ 9223372036854775807
def An.v (z : An) : Nv := (z.nd.id, z.ls, z.ps)
theorem elem_node {n : Nat} {cs : List Value} {y : DataW H × List MemPlace} (h : DataW.trod encH Tryz.prog w 0 spare held n 41 cs = some y) : ∃ z : An, cs = z.enc ∧ z.ok w := by
  obtain ⟨xs, m, _, _, hl, hlen, hf⟩ := DataW.trod_struct Tryz.underlying41 h
  rw [cells_node3] at hl
  obtain ⟨c0, c1, c2, rfl⟩ := cutn3 hl
  obtain ⟨y0, y1, y2, rfl⟩ := cutn3 (show xs.length = 3 from hlen)
  have f0 := hf 0 _ rfl
  have f1 := hf 1 _ rfl
  have f2 := hf 2 _ rfl
  simp [cells_int1, cells_strs1, cells_props1] at f0 f1 f2
  obtain ⟨x0, q0, _⟩ := elem_int Tryz.underlying3 f0
  obtain ⟨la, ls, lc, rfl, r1, b1⟩ := open_cell encS okStr Tryz.underlying38 cells_str1 (by omega) (fun n cs y h => elem_str h) f1
  obtain ⟨pa, ps, pc, rfl, r2, b2⟩ := open_cell Pr.cs okPr Tryz.underlying39 cells_prop2 (by omega) (fun n cs y h => elem_prop h) f2
  simp at q0
  subst q0
  exact ⟨⟨⟨x0, la, ls.length, lc, pa, ps.length, pc⟩, ls, ps⟩, rfl, rfl, rfl, r1, r2, b1, b2⟩
theorem rn_of_rd {a : Option Addr} {zs : List An} (h : RdS w 3 An.enc An.ok a zs) : RN (fun b => b < w.heap.size) w a (zs.map An.v) := fun k n hn => by
  rw [List.getElem?_map] at hn
  obtain ⟨z, hz, rfl⟩ := Option.map_eq_some_iff.1 hn
  obtain ⟨hk, rfl⟩ := List.getElem?_eq_some_iff.1 hz
  obtain ⟨b, off, h1, h2, h3⟩ := h.rf k _ hz
  obtain ⟨e1, e2, r1, r2, _, _⟩ := h.ok_all _ (List.getElem_mem hk)
  have c0 := h3 0 _ rfl
  have c1 := h3 1 _ rfl
  have c2 := h3 2 _ rfl
  rw [e1] at c1
  rw [e2] at c2
  exact ⟨b, off, _, _, _, _, h1, h2, by simpa [An.v] using c0, c1, c2, r1.rf, r2.rf⟩
set_option maxRecDepth 100000 in
theorem open_graph {r : Reach} {b0 : Nat} {v : Value} {d : DataW H} {p : List MemPlace} (hv : Value.okWide Tryz.prog w r b0 25 v) (h : DataW.Trod encH Tryz.prog w 0 spare held 25 v d p) :
    ∃ x : Gx, RG (fun b => b < w.heap.size) w v x ∧ LenX x ∧ StrX x := by
  obtain ⟨c0, c1, c2, y0, y1, y2, n, rfl, -, -, f0, f1, f2⟩ := Joins.open_agg3 Tryz.underlying25 (by kernel_rfl) cells_graph3 hv h
  obtain ⟨an, zs, nc, rfl, r1, b1⟩ := open_cell An.enc An.ok Tryz.underlying22 cells_node3 (by omega) (fun n cs y h => elem_node h) f0
  obtain ⟨ae, es, ec, rfl, r2, b2⟩ := open_cell Ed.cs okEd Tryz.underlying23 cells_edge4 (by omega) (fun n cs y h => elem_edge h) f1
  obtain ⟨nx, q2, _⟩ := elem_int Tryz.underlying3 f2
  simp at q2
  subst q2
  refine ⟨⟨zs.map An.v, es, nx⟩, ⟨an, nc, ae, ec, by simp, rn_of_rd r1, r2.rf⟩, ⟨by simpa using b1, b2, fun n hn => ?_⟩, fun n hn => ?_, fun e he => r2.ok_all e he⟩
  · obtain ⟨z, hz, rfl⟩ := List.mem_map.1 hn
    obtain ⟨_, _, _, _, o1, o2⟩ := r1.ok_all z hz
    exact ⟨o1, o2⟩
  · obtain ⟨z, hz, rfl⟩ := List.mem_map.1 hn
    obtain ⟨_, _, q1, q2, _, _⟩ := r1.ok_all z hz
    exact ⟨fun s hs => q1.ok_all s hs, fun p hp => q2.ok_all p hp⟩
end
end Go.Proofs.YtjcajidgaejhoaaGreat

namespace Go.Proofs.YtjcajidgaejhoaaGreat
open Go.RowKit
set_option linter.unusedSimpArgs false
set_option linter.unusedVariables false

/-- A step of tansylaw10, as it lies in memory. -/
structure St10 where
  kind : Int
  id : Int
  tgt : Int
  name : ByteArray
  val : ByteArray
def St10.enc (s : St10) : List Value := [.int .i64 s.kind, .int .i64 s.id, .int .i64 s.tgt, .string s.name, .string s.val]
def St10.ok (w : World) (s : St10) : Prop := s.name.size ≤ 9223372036854775807 ∧ s.val.size ≤ 9223372036854775807
theorem St10.ok_frame {w w' : World} (f : Frame [] w w') (s : St10) (h : s.ok w) : s.ok w' := h
theorem sat3 (m : Int) (a b : Nat) (h0 : 0 ≤ m) (h1 : m ≤ 1099511627776) (ha : a ≤ 9223372036854775807) (hb : b ≤ 9223372036854775807) : ∃ q : Int, 0 ≤ q ∧ q ≤ 1099511627776 ∧
    ∀ (w : World) (bk : Nat), Blk w bk 3 #[.int .i64 a, .int .i64 b, .int .i64 1] → Calls Tryz.prog 29 #[.int .i64 m, .slice (some ⟨bk, 0, none⟩) 3 3] w fun e w' => e = .returned (.int .i64 q) ∧ w' = w := by
  have h := satTo_le [(a : Int), (b : Int), 1] m h0 h1 (by simp)
  exact ⟨_, by have := h.1; omega, h.2.1, fun w bk hbk => sat_any m (some ⟨bk, 0, none⟩) 3 [(a : Int), (b : Int), 1] _ h0 h1 (.inr ⟨bk, 0, rfl, hbk.lt, fun k hk => by
    match k, hk with
    | 0, _ => exact hbk.at 0 rfl
    | 1, _ => exact hbk.at 1 rfl
    | 2, _ => exact hbk.at 2 rfl⟩) (by simp) (by simp; omega)⟩
/-- What small ends in. -/
def SmEnd (xs : List St10) (w : World) (e : Ending) (w' : World) : Prop := ∃ r : Bool, e = .returned (.bool r) ∧ (r = true → xs.length ≤ 250) ∧ Frame [] w w'

end Go.Proofs.YtjcajidgaejhoaaGreat

namespace Go.Proofs.YtjcajidgaejhoaaGreat
open Go.RowKit Go.ChangeShapes Go.WideShapes Go.ChangeAt
set_option linter.unusedSimpArgs false
set_option linter.unusedVariables false

theorem cutn5 {α : Type} {cs : List α} (h : cs.length = 5) : ∃ a b c d e, cs = [a, b, c, d, e] := by
  match cs, h with
  | [a, b, c, d, e], _ => exact ⟨a, b, c, d, e, rfl⟩
section
variable {H : Type} {encH : TypeId × Value → H} {w : World} {spare : Nat → Bool} {held : Bool}
set_option maxRecDepth 100000 in
theorem open_filter {r : Reach} {b0 : Nat} {v : Value} {d : DataW H} {p : List MemPlace} (hv : Value.okWide Tryz.prog w r b0 27 v) (h : DataW.Trod encH Tryz.prog w 0 spare held 27 v d p) :
    ∃ (vr : ByteArray) (pr : Bool) (nm vl : ByteArray), v = .agg #[.string vr, .bool pr, .string nm, .string vl] ∧ vr.size ≤ 9223372036854775807 ∧ nm.size ≤ 9223372036854775807 ∧ vl.size ≤ 9223372036854775807 := by
  obtain ⟨c0, c1, c2, c3, y0, y1, y2, y3, n, rfl, -, -, f0, f1, f2, f3⟩ := Joins.open_agg4 Tryz.underlying27 (by kernel_rfl) (by kernel_rfl) hv h
  obtain ⟨s0, q0, o0⟩ := elem_str f0
  obtain ⟨b1, q1, _⟩ := DataW.trod_bool Tryz.underlying4 f1
  obtain ⟨s2, q2, o2⟩ := elem_str f2
  obtain ⟨s3, q3, o3⟩ := elem_str f3
  simp [encS] at q0 q1 q2 q3
  subst q0 q1 q2 q3
  exact ⟨s0, b1, s2, s3, rfl, o0, o2, o3⟩
end
end Go.Proofs.YtjcajidgaejhoaaGreat

