/- The graph's object, and its small calls. -/
import Derived.Test.YtolkmapdbilolaaBsf
import Derived.Test.YtolkmapdbilolaaInsm
import Derived.Test.YtolkmapdbilolaaDel
namespace Go.Proofs.Ytolkmapdbilolaa
open Go.RowKit
set_option linter.unusedSimpArgs false
set_option linter.unusedVariables false

/-- The graph at block pb; F: its blocks (but those of labels and properties). -/
def GSt (w : World) (pb : Nat) (F : List Nat) (ns : List Nd) (es : List Ed) (given : Int) : Prop :=
  ∃ an nc ae ec G H, Blk w pb 59 #[.slice an ns.length nc, .slice ae es.length ec, .int .i64 given] ∧ Sl w 86 3 Nd.cs (.slice an ns.length nc) ns G ∧ Sl w 49 4 Ed.cs (.slice ae es.length ec) es H ∧
    pb ∉ G ∧ pb ∉ H ∧ (∀ x ∈ G, x ∉ H) ∧ F = pb :: (G ++ H)
theorem GSt.lt {w : World} {pb : Nat} {F : List Nat} {ns : List Nd} {es : List Ed} {given : Int} (h : GSt w pb F ns es given) : ∀ x ∈ F, x < w.heap.size := by
  obtain ⟨an, nc, ae, ec, G, H, hb, sn, se, _, _, _, rfl⟩ := h
  intro x hx
  simp at hx
  rcases hx with rfl | h | h
  · exact hb.lt
  · exact sn.lt x h
  · exact se.lt x h
theorem GSt.frame {w w' : World} {pb : Nat} {F S : List Nat} {ns : List Nd} {es : List Ed} {given : Int} (h : GSt w pb F ns es given) (f : Frame S w w') (hS : ∀ x ∈ F, x ∉ S) : GSt w' pb F ns es given := by
  obtain ⟨an, nc, ae, ec, G, H, hb, sn, se, n1, n2, n3, rfl⟩ := h
  exact ⟨an, nc, ae, ec, G, H, hb.frame f (hS _ (by simp)), sn.frame f (fun x hx => hS x (by simp [hx])), se.frame f (fun x hx => hS x (by simp [hx])), n1, n2, n3, rfl⟩
theorem GSt.frame0 {w w' : World} {pb : Nat} {F : List Nat} {ns : List Nd} {es : List Ed} {given : Int} (h : GSt w pb F ns es given) (f : Frame [] w w') : GSt w' pb F ns es given := h.frame f (by simp)
/-- Behind a call that may write the graph. -/
def GEnd (w : World) (pb : Nat) (F : List Nat) (ns : List Nd) (es : List Ed) (given : Int) (w' : World) : Prop :=
  ∃ F', GSt w' pb F' ns es given ∧ Frame F w w' ∧ ∀ x ∈ F', x ∈ F ∨ w.heap.size ≤ x

theorem gnew_any (w : World) : Calls Try.prog 27 #[] w fun e w' => ∃ pb, e = .returned (.pointer (some ⟨pb, 0, none⟩)) ∧ GSt w' pb [pb] [] [] 0 ∧ Frame [] w w' ∧ w.heap.size ≤ pb := by
  go_enter Try.func27, Try.ntmps27
  go_wp2
  go_ret
  exact ⟨_, rfl, ⟨none, 0, none, 0, [], [], Blk.new _ _ _, Sl.nil _ _ _ _, Sl.nil _ _ _ _, by simp, by simp, by simp, by simp⟩, Frame.alloc _ _ _, Nat.le_refl _⟩

section
variable {w : World} {pb : Nat} {F : List Nat} {ns : List Nd} {es : List Ed} {given : Int}
theorem gfind_any (h : GSt w pb F ns es given) (hu : Up (ns.map (·.id))) (hn : ns.length ≤ 1000000) (t : Int) :
    Calls Try.prog 64 #[.pointer (some ⟨pb, 0, none⟩), .int .i64 t] w fun e w' => e = .returned (.tuple #[.int .i64 (rank (ns.map (·.id)) t), .bool (decide (t ∈ ns.map (·.id)))]) ∧ Frame [] w w' := by
  obtain ⟨an, nc, ae, ec, G, H, hb, sn, se, n1, n2, n3, rfl⟩ := h
  have c0 := hb.at 0 rfl
  have hc := bsf_node an nc ns G t w sn hu (by omega)
  generalize rank (ns.map (·.id)) t = r at *
  generalize decide (t ∈ ns.map (·.id)) = d at *
  have HC := Lib.hid hc
  clear hc hb sn se n1 n2 n3 hu
  go_enter Try.func64, Try.ntmps64
  go_wp2_with fail
  refine HC.out.mono ?_
  rintro e w3 ⟨rfl, f3⟩
  have F3 := Lib.hid f3
  clear f3
  go_wp2_with fail
  go_ret2
  exact ⟨rfl, F3.out⟩
theorem gplace_any (h : GSt w pb F ns es given) (hu : Up (es.map (·.tok))) (hn : es.length ≤ 1000000) (t : Int) :
    Calls Try.prog 68 #[.pointer (some ⟨pb, 0, none⟩), .int .i64 t] w fun e w' => e = .returned (.tuple #[.int .i64 (rank (es.map (·.tok)) t), .bool (decide (t ∈ es.map (·.tok)))]) ∧ Frame [] w w' := by
  obtain ⟨an, nc, ae, ec, G, H, hb, sn, se, n1, n2, n3, rfl⟩ := h
  have c1 := hb.at 1 rfl
  have hc := bsf_edge ae ec es H t w se hu (by omega)
  generalize rank (es.map (·.tok)) t = r at *
  generalize decide (t ∈ es.map (·.tok)) = d at *
  have HC := Lib.hid hc
  clear hc hb sn se n1 n2 n3 hu
  go_enter Try.func68, Try.ntmps68
  go_wp2_with fail
  refine HC.out.mono ?_
  rintro e w3 ⟨rfl, f3⟩
  have F3 := Lib.hid f3
  clear f3
  go_wp2_with fail
  go_ret2
  exact ⟨rfl, F3.out⟩
theorem ghas_any (h : GSt w pb F ns es given) (hu : Up (ns.map (·.id))) (hn : ns.length ≤ 1000000) (t : Int) :
    Calls Try.prog 67 #[.pointer (some ⟨pb, 0, none⟩), .int .i64 t] w fun e w' => e = .returned (.bool (decide (t ∈ ns.map (·.id)))) ∧ Frame [] w w' := by
  have hc := gfind_any h hu hn t
  generalize rank (ns.map (·.id)) t = r at *
  generalize decide (t ∈ ns.map (·.id)) = d at *
  have HC := Lib.hid hc
  clear hc h hu
  go_enter Try.func67, Try.ntmps67
  go_wp2_with fail
  refine HC.out.mono ?_
  rintro e w3 ⟨rfl, f3⟩
  have F3 := Lib.hid f3
  clear f3
  go_wp2_with fail
  go_ret
  exact ⟨rfl, F3.out⟩
end
/-- May a name be? -/
def namedB (s : ByteArray) : Bool := decide (0 < s.size) && decide (s.size ≤ 20)
theorem named_any (s : ByteArray) (w : World) (hs : s.size ≤ 9223372036854775807) : Calls Try.prog 66 #[.string s] w fun e w' => e = .returned (.bool (namedB s)) ∧ w' = w := by
  by_cases h0 : 0 < s.size
  · by_cases h1 : s.size ≤ 20
    · have e : namedB s = true := by simp [namedB, h0, h1]
      rw [e]
      clear e
      go_enter Try.func66, Try.ntmps66
      go_wp2
      go_ret
      exact ⟨by simp; omega, rfl⟩
    · have e : namedB s = false := by simp [namedB, h0, h1]
      rw [e]
      clear e
      go_enter Try.func66, Try.ntmps66
      go_wp2
      go_ret
      exact ⟨by simp; omega, rfl⟩
  · have e : namedB s = false := by simp [namedB, h0]
    have e0 : s.size = 0 := by omega
    rw [e]
    clear e
    go_enter Try.func66, Try.ntmps66
    go_wp2
    go_ret
    exact ⟨rfl, rfl⟩
end Go.Proofs.Ytolkmapdbilolaa
