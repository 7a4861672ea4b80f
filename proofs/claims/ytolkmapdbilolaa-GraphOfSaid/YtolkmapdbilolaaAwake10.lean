/- tansylaw10.awake. -/
import Derived.Test.YtolkmapdbilolaaAll
import Derived.Test.YtolkmapdbilolaaGops
import Derived.Test.YtolkmapdbilolaaGadd
import Derived.Test.YtolkmapdbilolaaGdrop
namespace Go.Proofs.Ytolkmapdbilolaa
open Go.RowKit
set_option linter.unusedSimpArgs false
set_option linter.unusedVariables false

/-- A graph that a call has made for itself. -/
def GOwn (w : World) (pb : Nat) (ns : List Nd) (es : List Ed) (given : Int) (w' : World) : Prop := ∃ F, GSt w' pb F ns es given ∧ Frame [] w w' ∧ ∀ x ∈ F, w.heap.size ≤ x
theorem GOwn.next {w w1 w2 : World} {pb : Nat} {F : List Nat} {ns : List Nd} {es : List Ed} {given : Int} (hF : Frame [] w w1) (hn : ∀ x ∈ F, w.heap.size ≤ x) (h : GEnd w1 pb F ns es given w2) : GOwn w pb ns es given w2 := by
  obtain ⟨F', a, b, c⟩ := h
  exact ⟨F', a, hF.trans b (fun x hx => .inr (hn x hx)), fun x hx => by rcases c x hx with h | h; exact hn x h; have := hF.size; omega⟩
theorem GOwn.quiet {w w1 w2 : World} {pb : Nat} {ns : List Nd} {es : List Ed} {given : Int} (h : GOwn w pb ns es given w1) (f : Frame [] w1 w2) : GOwn w pb ns es given w2 := by
  obtain ⟨F, a, b, c⟩ := h
  exact ⟨F, a.frame0 f, b.trans1 f, c⟩
def sA : ByteArray := ⟨#[97]⟩

theorem fld_next (a : Option Addr) (n c : Nat) (b : Option Addr) (m d : Nat) (k : Int) (w : World) : (Instr.field 55 (.agg #[.slice a n c, .slice b m d, .int .i64 k]) 2).run Try.prog w = .ok (.int .i64 k) w := by kernel_rfl
set_option maxRecDepth 100000 in
theorem awake10 (w : World) : Calls Try.prog 26 #[] w fun e w' => e = .returned (.bool true) ∧ Frame [] w w' := by
  go_enter Try.func26, Try.ntmps26
  go_wp2_with fail
  refine (gnew_any _).mono ?_
  rintro e w1 ⟨pb, rfl, s1, f1, n1⟩
  have f1 : Frame [] w w1 := f1
  have n1 : ∀ x ∈ [pb], w.heap.size ≤ x := by simpa using n1
  go_wp2_with fail
  refine (addNode_end s1 (by simp [Up]) (by simp) 1 (by omega) (by omega) (by simp) (by simp [rank])).mono ?_
  rintro e w2 ⟨rfl, he⟩
  obtain ⟨F2, s2, f2, n2⟩ := GOwn.next f1 n1 he
  clear he s1 f1 n1
  go_wp2_with fail
  refine (addNode_end s2 (by simp [Up]) (by simp) 2 (by omega) (by omega) (by simp) (by simp [rank])).mono ?_
  rintro e w3 ⟨rfl, he⟩
  obtain ⟨F3, s3, f3, n3⟩ := GOwn.next f2 n2 he
  clear he s2 f2 n2
  go_wp2_with fail
  have hc := gadd_ok s3 (by simp [Up]) (by simp) (by simp) (by omega) (by omega) 1 2 ⟨#[97]⟩ (by decide) (by simp) (by simp)
  rw [show (0 : Int) + 1 = 1 from rfl] at hc
  refine hc.mono ?_
  clear hc
  rintro e w4 ⟨rfl, he⟩
  obtain ⟨F4, s4, f4, n4⟩ := GOwn.next f3 n3 he
  clear he s3 f3 n3
  go_wp2_with fail
  refine (gdrop_ok s4 (by simp [Up]) (by simp) 1 (by simp)).mono ?_
  rintro e w5 ⟨rfl, he⟩
  obtain ⟨F5, s5, f5, n5⟩ := GOwn.next f4 n4 he
  clear he s4 f4 n4
  go_wp2_with fail
  refine (addNode_dup s5 (by simp [Up]) (by simp) 1 (by omega) (by omega) (by simp)).mono ?_
  rintro e w6 ⟨rfl, f6⟩
  have s6 := s5.frame0 f6
  have f6' := f5.trans1 f6
  clear s5
  go_wp2_with fail
  have hc := gall_any [rn0 1, rn0 2] s6 (by intro r hr; simp at hr; rcases hr with rfl | rfl <;> exact rn0_ok _ _) (by simp) (by simp [rank]) (by omega)
  rw [show (1 : Int) + 1 = 2 from rfl] at hc
  refine hc.mono ?_
  clear hc
  rintro e w7 ⟨rs', an, nc, ae, ec, G, H, rfl, -, -, -, -, f7, -⟩
  have fd := fld_next
  go_wp2_with fail
  go_ret
  exact ⟨rfl, f6'.trans1 f7⟩

end Go.Proofs.Ytolkmapdbilolaa
