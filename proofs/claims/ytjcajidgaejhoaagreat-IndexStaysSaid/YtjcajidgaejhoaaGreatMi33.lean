/- The reference's change, In. -/
import Derived.Test.YtjcajidgaejhoaaGreatMi32
namespace Go.Proofs.YtjcajidgaejhoaaGreat
open Go.RowKit
set_option linter.unusedSimpArgs false
set_option linter.unusedVariables false

/-- What In ends in. -/
def InEnd (P : Prop) (w : World) (e : Ending) (w' : World) : Prop := ∃ i : Int, e = .returned (.int .i64 i) ∧ (0 ≤ i ↔ P) ∧ Frame [] w w'
set_option maxHeartbeats 1000000 in
theorem in_any (U : Nat → Prop) (a : Option Addr) (c : Nat) (xs : List ByteArray) (s : ByteArray) (w : World) (h : RF U w 1 encS a xs) (hl : xs.length ≤ 1000000) :
    Calls Tryz.prog 39 #[.slice a xs.length c, .string s] w (InEnd (s ∈ xs) w) := by
  have H := Lib.hid h
  clear h
  go_enter Tryz.func39, Tryz.ntmps39
  go_wp2_with fail
  go_loopw [5] (fun i wr => ∃ k : Nat, k ≤ xs.length ∧ i = .int .i64 k ∧ Hid (Frame [] w wr ∧ ∀ j x, j < k → xs[j]? = some x → x ≠ s)) (fun i _ => xs.length - (intOf i).toNat)
  case atStart => exact ⟨0, Nat.zero_le _, rfl, Frame.refl _ _, fun j _ h => by omega⟩
  case round =>
    obtain ⟨k, hk, rfl, hR⟩ := hrel
    by_cases hlt : k < xs.length
    · have g1 : xs[k]? = some xs[k] := by simp [hlt]
      obtain ⟨b, off, rfl, -, q1⟩ := (H.out.frame0 hR.out.1) k _ g1
      have x0 := q1 0 _ rfl
      simp only [Nat.add_zero, Nat.mul_one] at x0
      generalize xs[k] = x at *
      have G1 := Lib.hid g1
      clear g1 q1
      by_cases hxs : x = s
      · have hb := beq_toList_true hxs
        have HX := Lib.hid hxs
        clear hxs
        go_wp2_with fail
        go_ret
        exact ⟨k, rfl, ⟨fun _ => HX.out ▸ List.mem_of_getElem? G1.out, fun _ => by omega⟩, hR.out.1.trans1 (by (repeat first | assumption | exact Frame.refl _ _ | refine Frame.trans1 ?_ (Frame.alloc _ _ _) | refine Frame.trans1 ?_ (Frame.drew _ _) | refine Frame.trans1 ?_ (Frame.drewN _ _ _)))⟩
      · have hb := beq_toList_false hxs
        have HX := Lib.hid hxs
        clear hxs
        go_wp2_with fail
        go_roundw
        case rel => exact ⟨k + 1, by omega, by first | rfl | go_num, Lib.hid ⟨hR.out.1.trans1 (by (repeat first | assumption | exact Frame.refl _ _ | refine Frame.trans1 ?_ (Frame.alloc _ _ _) | refine Frame.trans1 ?_ (Frame.drew _ _) | refine Frame.trans1 ?_ (Frame.drewN _ _ _))), fun j z hj hz => by
          rcases Nat.lt_or_ge j k with h | h
          · exact hR.out.2 j z h hz
          · obtain rfl : j = k := by omega
            have := G1.out.symm.trans hz
            simp at this
            subst this
            exact HX.out⟩⟩
        case measure => first | (simp [intOf]; done) | (simp [intOf]; omega)
    · obtain rfl : k = xs.length := by omega
      go_wp2_with fail
      go_ret
      exact ⟨-1, rfl, ⟨fun h => by omega, fun h => by
        obtain ⟨j, hj, e⟩ := List.getElem_of_mem h
        exact absurd e (hR.out.2 j xs[j] hj (by simp))⟩, hR.out.1.trans1 (by (repeat first | assumption | exact Frame.refl _ _ | refine Frame.trans1 ?_ (Frame.alloc _ _ _) | refine Frame.trans1 ?_ (Frame.drew _ _) | refine Frame.trans1 ?_ (Frame.drewN _ _ _)))⟩
theorem InEnd.yes {P : Prop} {w : World} {f : Nat} {args : Array Value} (h : Calls Tryz.prog f args w (InEnd P w)) (hp : P) : Calls Tryz.prog f args w fun e w' => ∃ i : Nat, e = .returned (.int .i64 i) ∧ Frame [] w w' :=
  h.mono fun e w' ⟨i, he, hi, f⟩ => by
    have := hi.2 hp
    exact ⟨i.toNat, by rw [he]; congr 2; omega, f⟩
theorem InEnd.no {P : Prop} {w : World} {f : Nat} {args : Array Value} (h : Calls Tryz.prog f args w (InEnd P w)) (hp : ¬ P) : Calls Tryz.prog f args w fun e w' => ∃ i : Int, e = .returned (.int .i64 i) ∧ i < 0 ∧ Frame [] w w' :=
  h.mono fun e w' ⟨i, he, hi, f⟩ => ⟨i, he, by rcases Int.lt_or_le i 0 with h | h; exact h; exact absurd (hi.1 h) hp, f⟩

theorem Sl.ne {α : Type} {w : World} {e sz n c : Nat} {enc : α → List Value} {a : Option Addr} {xs : List α} {G : List Nat} (h : Sl w e sz enc (.slice a n c) xs G) (h0 : 0 < xs.length) : ∃ b, a = some ⟨b, 0, none⟩ ∧ G = [b] ∧ RowAt w b e sz n c (xs.flatMap enc) := by
  rcases h with ⟨_, h, _⟩ | ⟨b, cap, h1, h2, h3⟩
  · subst h; simp at h0
  · injection h1 with q1 q2 q3
    subst q1 q2 q3
    exact ⟨b, rfl, h2, h3⟩
theorem set3_list (PA PB : List Value) (x0 x1 x2 y0 y1 y2 : Value) (m : Nat) (hm : PA.length = m * 3) :
    ((((PA ++ x0 :: x1 :: x2 :: PB).set (m * 3) y0).set (m * 3 + 1) y1).set (m * 3 + 2) y2) = PA ++ y0 :: y1 :: y2 :: PB := by
  have e4 : m * 3 = PA.length + 0 := by omega
  rw [e4]
  simp [List.set_append]
theorem set_flat {zs : List Zn} {k : Nat} (hk : k < zs.length) (z : Zn) : ((((zs.flatMap Zn.enc).set (k * 3) (.int .i64 z.nd.id)).set (k * 3 + 1) (.slice z.nd.la z.nd.ln z.nd.lc)).set (k * 3 + 2) (.slice z.nd.pa z.nd.pn z.nd.pc)) = (zs.set k z).flatMap Zn.enc := by
  have e : zs = zs.take k ++ zs[k] :: zs.drop (k + 1) := by rw [List.getElem_cons_drop, List.take_append_drop]
  have e2 : zs.set k z = zs.take k ++ z :: zs.drop (k + 1) := by
    rw [List.set_eq_take_append_cons_drop, if_pos hk]
  rw [e2]
  have hl : ((zs.take k).flatMap Zn.enc).length = k * 3 := by rw [flat_len zn_len]; simp; omega
  have := set3_list ((zs.take k).flatMap Zn.enc) ((zs.drop (k + 1)).flatMap Zn.enc) (.int .i64 zs[k].nd.id) (.slice zs[k].nd.la zs[k].nd.ln zs[k].nd.lc) (.slice zs[k].nd.pa zs[k].nd.pn zs[k].nd.pc) (.int .i64 z.nd.id) (.slice z.nd.la z.nd.ln z.nd.lc) (.slice z.nd.pa z.nd.pn z.nd.pc) k hl
  have e3 : zs.flatMap Zn.enc = (zs.take k).flatMap Zn.enc ++ .int .i64 zs[k].nd.id :: .slice zs[k].nd.la zs[k].nd.ln zs[k].nd.lc :: .slice zs[k].nd.pa zs[k].nd.pn zs[k].nd.pc :: (zs.drop (k + 1)).flatMap Zn.enc := by
    conv => lhs; rw [e]
    simp only [List.flatMap_append, List.flatMap_cons, Zn.enc, Nd.cs, List.cons_append, List.nil_append]
  rw [e3, this]
  simp only [List.flatMap_append, List.flatMap_cons, Zn.enc, Nd.cs, List.cons_append, List.nil_append]

end Go.Proofs.YtjcajidgaejhoaaGreat

