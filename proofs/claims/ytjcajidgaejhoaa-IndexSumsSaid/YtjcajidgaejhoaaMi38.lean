/- The reference's change, In. -/
import Derived.Test.YtjcajidgaejhoaaMi37
namespace Go.Proofs.Ytjcajidgaejhoaa
open Go.RowKit
set_option linter.unusedSimpArgs false
set_option linter.unusedVariables false

/-- What In ends in. -/
def InEnd (P : Prop) (w : World) (e : Ending) (w' : World) : Prop := ∃ i : Int, e = .returned (.int .i64 i) ∧ (0 ≤ i ↔ P) ∧ Frame [] w w'
theorem InEnd.yes {P : Prop} {w : World} {f : Nat} {args : Array Value} (h : Calls Try.prog f args w (InEnd P w)) (hp : P) : Calls Try.prog f args w fun e w' => ∃ i : Nat, e = .returned (.int .i64 i) ∧ Frame [] w w' :=
  h.mono fun e w' ⟨i, he, hi, f⟩ => by
    have := hi.2 hp
    exact ⟨i.toNat, by rw [he]; congr 2; omega, f⟩
theorem InEnd.no {P : Prop} {w : World} {f : Nat} {args : Array Value} (h : Calls Try.prog f args w (InEnd P w)) (hp : ¬ P) : Calls Try.prog f args w fun e w' => ∃ i : Int, e = .returned (.int .i64 i) ∧ i < 0 ∧ Frame [] w w' :=
  h.mono fun e w' ⟨i, he, hi, f⟩ => ⟨i, he, by rcases Int.lt_or_le i 0 with h | h; exact h; exact absurd (hi.1 h) hp, f⟩

theorem Sl.ne {α : Type} {w : World} {e sz n c : Nat} {enc : α → List Value} {a : Option Addr} {xs : List α} {G : List Nat} (h : Sl w e sz enc (.slice a n c) xs G) (h0 : 0 < xs.length) : ∃ b, a = some ⟨b, 0, none⟩ ∧ G = [b] ∧ RowAt w b e sz n c (xs.flatMap enc) := by
  rcases h with ⟨_, h, _⟩ | ⟨b, cap, h1, h2, h3⟩
  · subst h; simp at h0
  · injection h1 with q1 q2 q3
    subst q1 q2 q3
    exact ⟨b, rfl, h2, h3⟩
theorem set3_list (PA PB : List Value) (x0 x1 x2 y0 y1 y2 : Value) (m : Nat) (hm : PA.length = m * 3) :
    ((((PA ++ x0 :: x1 :: x2 :: PB).set (m * 3) y0).set (m * 3 + 1) y1).set (m * 3 + 2) y2) = PA ++ y0 :: y1 :: y2 :: PB := by
  have e4 : m * 3 = PA.length + 0 := by omega
  rw [e4]
  simp [List.set_append]
theorem set_flat {zs : List Zn} {k : Nat} (hk : k < zs.length) (z : Zn) : ((((zs.flatMap Zn.enc).set (k * 3) (.int .i64 z.nd.id)).set (k * 3 + 1) (.slice z.nd.la z.nd.ln z.nd.lc)).set (k * 3 + 2) (.slice z.nd.pa z.nd.pn z.nd.pc)) = (zs.set k z).flatMap Zn.enc := by
  have e : zs = zs.take k ++ zs[k] :: zs.drop (k + 1) := by rw [List.getElem_cons_drop, List.take_append_drop]
  have e2 : zs.set k z = zs.take k ++ z :: zs.drop (k + 1) := by
    rw [List.set_eq_take_append_cons_drop, if_pos hk]
  rw [e2]
  have hl : ((zs.take k).flatMap Zn.enc).length = k * 3 := by rw [flat_len zn_len]; simp; omega
  have := set3_list ((zs.take k).flatMap Zn.enc) ((zs.drop (k + 1)).flatMap Zn.enc) (.int .i64 zs[k].nd.id) (.slice zs[k].nd.la zs[k].nd.ln zs[k].nd.lc) (.slice zs[k].nd.pa zs[k].nd.pn zs[k].nd.pc) (.int .i64 z.nd.id) (.slice z.nd.la z.nd.ln z.nd.lc) (.slice z.nd.pa z.nd.pn z.nd.pc) k hl
  have e3 : zs.flatMap Zn.enc = (zs.take k).flatMap Zn.enc ++ .int .i64 zs[k].nd.id :: .slice zs[k].nd.la zs[k].nd.ln zs[k].nd.lc :: .slice zs[k].nd.pa zs[k].nd.pn zs[k].nd.pc :: (zs.drop (k + 1)).flatMap Zn.enc := by
    conv => lhs; rw [e]
    simp only [List.flatMap_append, List.flatMap_cons, Zn.enc, Nd.cs, List.cons_append, List.nil_append]
  rw [e3, this]
  simp only [List.flatMap_append, List.flatMap_cons, Zn.enc, Nd.cs, List.cons_append, List.nil_append]

end Go.Proofs.Ytjcajidgaejhoaa

