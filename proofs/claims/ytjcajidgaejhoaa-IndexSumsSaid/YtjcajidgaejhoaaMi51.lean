/- A graph that is handed in, read as data. -/
import Derived.Test.YtjcajidgaejhoaaMi33
import Derived.Test.YtjcajidgaejhoaaMi35
import Derived.Lib.SmallJoins
namespace Go.Proofs.Ytjcajidgaejhoaa
open Go.RowKit Go.ChangeShapes Go.WideShapes Go.ChangeAt
set_option linter.unusedSimpArgs false
set_option linter.unusedVariables false

theorem cutn3 {α : Type} {cs : List α} (h : cs.length = 3) : ∃ a b c, cs = [a, b, c] := by
  match cs, h with
  | [a, b, c], _ => exact ⟨a, b, c, rfl⟩
theorem cutn2 {α : Type} {cs : List α} (h : cs.length = 2) : ∃ a b, cs = [a, b] := by
  match cs, h with
  | [a, b], _ => exact ⟨a, b, rfl⟩
theorem cutn4 {α : Type} {cs : List α} (h : cs.length = 4) : ∃ a b c d, cs = [a, b, c, d] := by
  match cs, h with
  | [a, b, c, d], _ => exact ⟨a, b, c, d, rfl⟩
theorem cells_int1 : Try.prog.cellsOf 3 = 1 := by kernel_rfl
theorem cells_str1 : Try.prog.cellsOf 9 = 1 := by kernel_rfl
theorem cells_strs1 : Try.prog.cellsOf 35 = 1 := by kernel_rfl
theorem cells_props1 : Try.prog.cellsOf 39 = 1 := by kernel_rfl
theorem cells_nodes1 : Try.prog.cellsOf 22 = 1 := by kernel_rfl
theorem cells_edges1 : Try.prog.cellsOf 23 = 1 := by kernel_rfl
theorem cells_prop2 : Try.prog.cellsOf 46 = 2 := by kernel_rfl
theorem cells_edge4 : Try.prog.cellsOf 43 = 4 := by kernel_rfl
theorem cells_node3 : Try.prog.cellsOf 41 = 3 := by kernel_rfl
theorem cells_graph3 : Try.prog.cellsOf 25 = 3 := by kernel_rfl

theorem RdS.rf {α : Type} {w : World} {sz : Nat} {enc : α → List Value} {ok : World → α → Prop} {a : Option Addr} {xs : List α} (h : RdS w sz enc ok a xs) : RF (fun b => b < w.heap.size) w sz enc a xs := fun k x hx => by
  rcases h with h | ⟨b, off, h1, h2, h3⟩
  · subst h; simp at hx
  · obtain ⟨hk, rfl⟩ := List.getElem?_eq_some_iff.1 hx
    exact ⟨b, off, h1, h2, (h3 k hk).1⟩
section
variable {H : Type} {encH : TypeId × Value → H} {w : World} {spare : Nat → Bool} {held : Bool}
def okStr (_ : World) (s : ByteArray) : Prop := s.size ≤ 9223372036854775807
theorem elem_str {n : Nat} {cs : List Value} {y : DataW H × List MemPlace} (h : DataW.trod encH Try.prog w 0 spare held n 9 cs = some y) : ∃ s, cs = encS s ∧ okStr w s := by
  obtain ⟨s, rfl, _, hs⟩ := DataW.trod_string Try.underlying9 h
  exact ⟨s, rfl, by unfold maxLen at hs; unfold okStr; omega⟩
def okPr (_ : World) (p : Pr) : Prop := p.name.size ≤ 9223372036854775807 ∧ p.val.size ≤ 9223372036854775807
theorem elem_prop {n : Nat} {cs : List Value} {y : DataW H × List MemPlace} (h : DataW.trod encH Try.prog w 0 spare held n 46 cs = some y) : ∃ p : Pr, cs = p.cs ∧ okPr w p := by
  obtain ⟨xs, m, _, _, hl, hlen, hf⟩ := DataW.trod_struct Try.underlying46 h
  rw [cells_prop2] at hl
  obtain ⟨c0, c1, rfl⟩ := cutn2 hl
  obtain ⟨y0, y1, rfl⟩ := cutn2 (show xs.length = 2 from hlen)
  have f0 := hf 0 _ rfl
  have f1 := hf 1 _ rfl
  simp [cells_str1] at f0 f1
  obtain ⟨s, hs, o1⟩ := elem_str f0
  obtain ⟨t, ht, o2⟩ := elem_str f1
  simp [encS] at hs ht
  subst hs ht
  exact ⟨⟨s, t⟩, rfl, o1, o2⟩
def okEd (_ : World) (e : Ed) : Prop := e.lab.size ≤ 9223372036854775807
theorem elem_edge {n : Nat} {cs : List Value} {y : DataW H × List MemPlace} (h : DataW.trod encH Try.prog w 0 spare held n 43 cs = some y) : ∃ e : Ed, cs = e.cs ∧ okEd w e := by
  obtain ⟨xs, m, _, _, hl, hlen, hf⟩ := DataW.trod_struct Try.underlying43 h
  rw [cells_edge4] at hl
  obtain ⟨c0, c1, c2, c3, rfl⟩ := cutn4 hl
  obtain ⟨y0, y1, y2, y3, rfl⟩ := cutn4 (show xs.length = 4 from hlen)
  have f0 := hf 0 _ rfl
  have f1 := hf 1 _ rfl
  have f2 := hf 2 _ rfl
  have f3 := hf 3 _ rfl
  simp [cells_int1, cells_str1] at f0 f1 f2 f3
  obtain ⟨x0, q0, _⟩ := elem_int Try.underlying3 f0
  obtain ⟨x1, q1, _⟩ := elem_int Try.underlying3 f1
  obtain ⟨s, q2, o2⟩ := elem_str f2
  obtain ⟨x3, q3, _⟩ := elem_int Try.underlying3 f3
  simp [encS] at q0 q1 q2 q3
  subst q0 q1 q2 q3
  exact ⟨⟨x0, x1, s, x3⟩, rfl, o2⟩
/-- A slice cell, opened. -/
theorem open_cell {α : Type} {t e sz fuel : Nat} {c : Value} {x : DataW H × List MemPlace} (enc : α → List Value) (ok : World → α → Prop) (ht : Try.prog.underlying t = some (.slice e)) (hsz : Try.prog.cellsOf e = sz) (h0 : 0 < sz)
    (elem : ∀ n cs y, DataW.trod encH Try.prog w 0 spare held n e cs = some y → ∃ z : α, cs = enc z ∧ ok w z) (h : DataW.trod encH Try.prog w 0 spare held fuel t [c] = some x) :
    ∃ (a : Option Addr) (l : List α) (cap : Nat), c = .slice a l.length cap ∧ RdS w sz enc ok a l ∧ l.length ≤ 9223372036854775807 := by
  rcases Deep.open_slice ht h with ⟨hc, _⟩ | ⟨a, len, cap, m, n, D, Pl, hc, _⟩
  · simp at hc; subst hc
    exact ⟨none, [], 0, rfl, .inl rfl, by simp⟩
  · simp at hc; subst hc
    obtain ⟨l, rfl, rd, le, mx⟩ := open_list enc ok ht hsz h0 elem h
    exact ⟨some a, l, cap, rfl, rd, by unfold maxLen at mx; omega⟩
/-- A node that is handed in. -/
structure An where
  nd : Nd
  ls : List ByteArray
  ps : List Pr
def An.enc (z : An) : List Value := z.nd.cs
def An.ok (w : World) (z : An) : Prop := z.nd.ln = z.ls.length ∧ z.nd.pn = z.ps.length ∧ RdS w 1 encS okStr z.nd.la z.ls ∧ RdS w 2 Pr.cs okPr z.nd.pa z.ps ∧ z.ls.length ≤ 9223372036854775807 ∧ z.ps.length ≤ 9223372036854775807
def An.v (z : An) : Nv := (z.nd.id, z.ls, z.ps)
theorem elem_node {n : Nat} {cs : List Value} {y : DataW H × List MemPlace} (h : DataW.trod encH Try.prog w 0 spare held n 41 cs = some y) : ∃ z : An, cs = z.enc ∧ z.ok w := by
  obtain ⟨xs, m, _, _, hl, hlen, hf⟩ := DataW.trod_struct Try.underlying41 h
  rw [cells_node3] at hl
  obtain ⟨c0, c1, c2, rfl⟩ := cutn3 hl
  obtain ⟨y0, y1, y2, rfl⟩ := cutn3 (show xs.length = 3 from hlen)
  have f0 := hf 0 _ rfl
  have f1 := hf 1 _ rfl
  have f2 := hf 2 _ rfl
  simp [cells_int1, cells_strs1, cells_props1] at f0 f1 f2
  obtain ⟨x0, q0, _⟩ := elem_int Try.underlying3 f0
  obtain ⟨la, ls, lc, rfl, r1, b1⟩ := open_cell encS okStr Try.underlying35 cells_str1 (by omega) (fun n cs y h => elem_str h) f1
  obtain ⟨pa, ps, pc, rfl, r2, b2⟩ := open_cell Pr.cs okPr Try.underlying39 cells_prop2 (by omega) (fun n cs y h => elem_prop h) f2
  simp at q0
  subst q0
  exact ⟨⟨⟨x0, la, ls.length, lc, pa, ps.length, pc⟩, ls, ps⟩, rfl, rfl, rfl, r1, r2, b1, b2⟩
theorem rn_of_rd {a : Option Addr} {zs : List An} (h : RdS w 3 An.enc An.ok a zs) : RN (fun b => b < w.heap.size) w a (zs.map An.v) := fun k n hn => by
  rw [List.getElem?_map] at hn
  obtain ⟨z, hz, rfl⟩ := Option.map_eq_some_iff.1 hn
  obtain ⟨hk, rfl⟩ := List.getElem?_eq_some_iff.1 hz
  obtain ⟨b, off, h1, h2, h3⟩ := h.rf k _ hz
  obtain ⟨e1, e2, r1, r2, _, _⟩ := h.ok_all _ (List.getElem_mem hk)
  have c0 := h3 0 _ rfl
  have c1 := h3 1 _ rfl
  have c2 := h3 2 _ rfl
  rw [e1] at c1
  rw [e2] at c2
  exact ⟨b, off, _, _, _, _, h1, h2, by simpa [An.v] using c0, c1, c2, r1.rf, r2.rf⟩
set_option maxRecDepth 100000 in
theorem open_graph {r : Reach} {b0 : Nat} {v : Value} {d : DataW H} {p : List MemPlace} (hv : Value.okWide Try.prog w r b0 25 v) (h : DataW.Trod encH Try.prog w 0 spare held 25 v d p) :
    ∃ x : Gx, RG (fun b => b < w.heap.size) w v x ∧ LenX x ∧ StrX x := by
  obtain ⟨c0, c1, c2, y0, y1, y2, n, rfl, -, -, f0, f1, f2⟩ := Joins.open_agg3 Try.underlying25 (by kernel_rfl) cells_graph3 hv h
  obtain ⟨an, zs, nc, rfl, r1, b1⟩ := open_cell An.enc An.ok Try.underlying22 cells_node3 (by omega) (fun n cs y h => elem_node h) f0
  obtain ⟨ae, es, ec, rfl, r2, b2⟩ := open_cell Ed.cs okEd Try.underlying23 cells_edge4 (by omega) (fun n cs y h => elem_edge h) f1
  obtain ⟨nx, q2, _⟩ := elem_int Try.underlying3 f2
  simp at q2
  subst q2
  refine ⟨⟨zs.map An.v, es, nx⟩, ⟨an, nc, ae, ec, by simp, rn_of_rd r1, r2.rf⟩, ⟨by simpa using b1, b2, fun n hn => ?_⟩, fun n hn => ?_, fun e he => r2.ok_all e he⟩
  · obtain ⟨z, hz, rfl⟩ := List.mem_map.1 hn
    obtain ⟨_, _, _, _, o1, o2⟩ := r1.ok_all z hz
    exact ⟨o1, o2⟩
  · obtain ⟨z, hz, rfl⟩ := List.mem_map.1 hn
    obtain ⟨_, _, q1, q2, _, _⟩ := r1.ok_all z hz
    exact ⟨fun s hs => q1.ok_all s hs, fun p hp => q2.ok_all p hp⟩
end
end Go.Proofs.Ytjcajidgaejhoaa

