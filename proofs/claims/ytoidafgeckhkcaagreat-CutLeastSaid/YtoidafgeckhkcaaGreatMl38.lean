/- anti.order: how two sets stand to one another. anti.part: a part of another one, both sorted; slices.Equal over ints. A new slice, at the end of a call. anti.Sorted. -/
import Derived.Test.YtoidafgeckhkcaaGreatMl36
import Derived.Test.YtoidafgeckhkcaaGreatMl37
import Derived.Test.YtoidafgeckhkcaaGreatMl05
import Derived.IntWalk
import Derived.BigQuiet
import Derived.Sort.Grow
import Derived.Test.YtoidafgeckhkcaaGreatMl13
import Derived.Test.YtoidafgeckhkcaaGreatMl14
namespace Go.Proofs.YtoidafgeckhkcaaGreat
open Go.RowKit
set_option linter.unusedSimpArgs false
set_option linter.unusedVariables false

theorem cmpL_at {xs ys : List Int} {k : Nat} (h1 : k < xs.length) (h2 : k < ys.length) : cmpL (xs.drop k) (ys.drop k) = if xs[k] < ys[k] then -1 else if ys[k] < xs[k] then 1 else cmpL (xs.drop (k + 1)) (ys.drop (k + 1)) := by
  rw [List.drop_eq_getElem_cons h1, List.drop_eq_getElem_cons h2]; rfl
theorem cmpL_long {xs ys : List Int} {k : Nat} (h1 : k < xs.length) (h2 : ys.length ≤ k) : cmpL (xs.drop k) (ys.drop k) = 1 := by
  rw [List.drop_eq_getElem_cons h1, List.drop_eq_nil_of_le h2]; rfl
theorem cmpL_short {xs ys : List Int} {k : Nat} (h1 : xs.length ≤ k) (h2 : k < ys.length) : cmpL (xs.drop k) (ys.drop k) = -1 := by
  rw [List.drop_eq_getElem_cons h2, List.drop_eq_nil_of_le h1]; rfl
theorem cmpL_end {xs ys : List Int} {k : Nat} (h1 : xs.length ≤ k) (h2 : ys.length ≤ k) : cmpL (xs.drop k) (ys.drop k) = 0 := by
  rw [List.drop_eq_nil_of_le h1, List.drop_eq_nil_of_le h2]; rfl

theorem cfO_or (xs ys : List Int) : (if cmpI xs.length ys.length = 0 then cmpL xs ys else cmpI xs.length ys.length) = cfO xs ys := by
  unfold cfO cmpI
  by_cases h1 : xs.length < ys.length
  · have : (xs.length : Int) < ys.length := by omega
    simp [h1]
  · by_cases h2 : ys.length < xs.length
    · simp [h1, h2]
    · simp [h1, h2]
end Go.Proofs.YtoidafgeckhkcaaGreat

namespace Go.Proofs.YtoidafgeckhkcaaGreat
open Go.RowKit
set_option linter.unusedSimpArgs false
set_option linter.unusedVariables false

end Go.Proofs.YtoidafgeckhkcaaGreat

namespace Go.Proofs.YtoidafgeckhkcaaGreat
open Go.RowKit
set_option linter.unusedSimpArgs false
set_option linter.unusedVariables false
theorem Blk.fresh {w : World} {T : TypeId} {cs : Array Value} {b : Nat} (h : b = w.heap.size) : Blk (w.alloc (.cells cs T)) b T cs := by subst h; exact Blk.new _ _ _
/-- A new slice. -/
def FreshEnd {α : Type} (T sz : Nat) (enc : α → List Value) (xs : List α) (w : World) (e : Ending) (w' : World) : Prop := ∃ a c G, e = .returned (.slice a xs.length c) ∧ Sl w' T sz enc (.slice a xs.length c) xs G ∧ Frame [] w w' ∧ ∀ x ∈ G, w.heap.size ≤ x
theorem FreshEnd.behind {α : Type} {T sz : Nat} {enc : α → List Value} {xs : List α} {w w1 w' : World} {e : Ending} (f : Frame [] w w1) (h : FreshEnd T sz enc xs w1 e w') : FreshEnd T sz enc xs w e w' := by
  obtain ⟨a, c, G, h1, h2, h3, h4⟩ := h
  exact ⟨a, c, G, h1, h2, f.trans1 h3, fun x hx => Nat.le_trans f.size (h4 x hx)⟩
theorem Sl.row {α : Type} {w : World} {e sz : Nat} {enc : α → List Value} {v : Value} {A B : List α} {x : α} {G : List Nat} (h : Sl w e sz enc v (A ++ x :: B) G) : ∃ b cap, v = .slice (some ⟨b, 0, none⟩) (A ++ x :: B).length cap ∧ G = [b] ∧ RowAt w b e sz (A ++ x :: B).length cap ((A ++ x :: B).flatMap enc) := by
  rcases h with ⟨_, h, _⟩ | h
  · simp at h
  · exact h
end Go.Proofs.YtoidafgeckhkcaaGreat

namespace Go.Proofs.YtoidafgeckhkcaaGreat
open Go.RowKit Go.Sort
set_option linter.unusedSimpArgs false
set_option linter.unusedVariables false

theorem encI_map (xs : List Int) : xs.flatMap Go.Proofs.YtoidafgeckhkcaaGreat.encI = xs.map (Value.int .i64) := by
  induction xs with
  | nil => rfl
  | cons a t ih => rw [List.flatMap_cons, ih]; rfl
theorem fresh_owned {w w' : World} {xs : List Int} {v' : Value} (h : w'.ownsRow w.heap.size 3 1 v' xs.length (xs.map (Value.int .i64))) (hn : v' ≠ .slice none 0 0) (hb : Go.RowKit.Below w.heap.size w w') : FreshEnd 3 1 Go.Proofs.YtoidafgeckhkcaaGreat.encI xs w (.returned v') w' := by
  obtain ⟨h1, h2⟩ := h
  rcases h2 with ⟨e, _⟩ | ⟨g, cap, cur, rfl, hg, hb2, hc, hm, hs, ht⟩
  · exact absurd e hn
  · obtain ⟨b1, b2, b3, b4, b5⟩ := hb
    refine ⟨some ⟨g, 0, none⟩, cap, [g], rfl, .inr ⟨g, cap, rfl, rfl, ?_⟩, ⟨b1, b2, b3, b4, fun k hk _ => b5 k hk⟩, fun x hx => ?_⟩
    · rw [encI_map]
      exact ⟨h1, .inr ⟨g, cap, cur, rfl, Nat.zero_le _, hb2, hc, hm, hs, ht⟩⟩
    · obtain rfl : x = g := by simpa using hx
      exact hg
theorem cloneR (a : Option Addr) (c : Nat) (xs : List Int) (w : World) (h : RdI w a xs) (hl : xs.length ≤ 1000000) :
    Calls Tryz.prog 45 #[.slice a xs.length c] w (FreshEnd 3 1 Go.Proofs.YtoidafgeckhkcaaGreat.encI xs w) := by
  rcases h with rfl | ⟨b, off, rfl, hb, hc⟩
  · cases a with
    | none =>
      refine (Tryz.slices_Clone_int_nil 0 c w).mono ?_
      rintro e w' ⟨rfl, rfl⟩
      exact ⟨none, 0, [], rfl, Sl.nil _ _ _ _, Frame.refl _ _, by simp⟩
    | some a =>
      refine (Tryz.slices_Clone_int_zero a c w).mono ?_
      rintro e w' ⟨v', rfl, h1, h2, h3⟩
      exact fresh_owned (xs := []) h1 h2 h3
  · have := Tryz.slices_Clone_int b off xs.length c xs w (Nat.le_refl _) (by omega) (fun j hj => by
      rw [hc j hj]; simp [List.getD, hj])
    refine this.mono ?_
    rintro e w' ⟨v', rfl, h1, h2, h3⟩
    rw [List.take_length] at h1
    exact fresh_owned h1 h2 h3
theorem put_slm {w : World} {b cap n m : Nat} {xs ys : List Int} {os : Array Obj} (h : RowAt w b 3 1 xs.length cap (xs.flatMap Go.Proofs.YtoidafgeckhkcaaGreat.encI)) (hl : ys.length = xs.length) (hm : m ≤ ys.length) :
    Sl (grow (putRow (Value.int .i64) (Sort.ahead w n) b 0 ys.toArray) os) 3 1 Go.Proofs.YtoidafgeckhkcaaGreat.encI (.slice (some ⟨b, 0, none⟩) m cap) (ys.take m) [b] := by
  obtain ⟨cs, h1, h2, h3, h4, h5⟩ := h.blk
  have hlm : (ys.take m).length = m := by simp; omega
  refine .inr ⟨b, cap, by rw [hlm], rfl, RowAt.of_blk (put_blk h1) (by omega) h3 (by simpa [putCells] using h4) ?_⟩
  have := putCells_take ys.toArray cs (by simp; omega)
  rw [hlm, Nat.mul_one]
  have h9 : (putCells (Value.int .i64) 0 ys.toArray cs).toList.take m = ((putCells (Value.int .i64) 0 ys.toArray cs).toList.take ys.toArray.size).take m := by
    rw [List.take_take, Nat.min_eq_left (by simpa using hm)]
  rw [h9, this, encI_map, encI_map, List.map_take]
theorem compact_len5 (zs : List Int) : (Lib.compact zs).length ≤ zs.length := by
  unfold Lib.compact Lib.compactUpTo
  rw [List.length_map]
  have := List.length_filter_le (Lib.keeps zs.toArray) (List.range zs.length)
  simpa using this
theorem compact_sl (v : Value) (xs : List Int) (G : List Nat) (w : World) (h : Sl w 3 1 Go.Proofs.YtoidafgeckhkcaaGreat.encI v xs G) (hl : xs.length ≤ 1000000) :
    Calls Tryz.prog 68 #[v] w fun e w' => ∃ a c, e = .returned (.slice a (Lib.compact xs).length c) ∧ Sl w' 3 1 Go.Proofs.YtoidafgeckhkcaaGreat.encI (.slice a (Lib.compact xs).length c) (Lib.compact xs) G ∧ Frame G w w' := by
  rcases id h with ⟨rfl, rfl, rfl⟩ | ⟨b, cap, rfl, rfl, hr⟩
  · refine (Tryz.slices_Compact_int_empty none 0 w).mono ?_
    rintro e w' ⟨he, rfl⟩
    exact ⟨none, 0, he, Sl.nil _ _ _ _, Frame.refl _ _⟩
  · obtain ⟨cs, h1, h2, h3, h4, h5⟩ := hr.blk
    have hc := Tryz.slices_Compact_int b 0 cap xs w (holds_sl hr) (by omega) h2
    have hcl := compact_len5 xs
    refine hc.mono ?_
    rintro e w' ⟨he, n, rfl⟩
    have := put_slm (n := n) (os := #[]) (m := (Lib.compact xs).length) hr (ys := Lib.compact xs ++ List.replicate (xs.length - (Lib.compact xs).length) 0) (by simp; omega) (by simp)
    rw [grow_empty, List.take_left] at this
    have f := put_frame (w := w) (b := b) (n := n) (d := (Lib.compact xs ++ List.replicate (xs.length - (Lib.compact xs).length) 0).toArray) (os := #[])
    rw [grow_empty] at f
    exact ⟨some ⟨b, 0, none⟩, cap, he, this, f⟩
set_option maxRecDepth 100000 in
theorem asorted_any (a : Option Addr) (c : Nat) (ls : List Int) (w : World) (h : RdI w a ls) (hl : ls.length ≤ 1000000) :
    Calls Tryz.prog 44 #[.slice a ls.length c] w (FreshEnd 3 1 Go.Proofs.YtoidafgeckhkcaaGreat.encI (srtI ls) w) := by
  have A := Lib.hid (cloneR a c ls w h hl)
  have E := Lib.hid (srtI_compact ls)
  generalize hs : (ls.mergeSort fun x y => decide (x ≤ y)) = ss at E
  have HS := Lib.hid hs
  have hss : ss.length ≤ 1000000 := by rw [← hs]; simpa using hl
  clear h hs
  go_enter Tryz.func44, Tryz.ntmps44
  go_wp2_with fail
  refine A.out.mono ?_
  rintro e w1 ⟨a1, c1, G1, rfl, s1, f1, g1⟩
  have S1 := Lib.hid s1
  have F1 := Lib.hid f1
  have G := Lib.hid g1
  clear s1 f1 g1
  go_wp2_with fail
  refine (sort_sl _ ls G1 w1 S1.out hl).mono ?_
  rintro e w2 ⟨rfl, s2, f2⟩
  rw [HS.out] at s2
  have S2 := Lib.hid s2
  have F2 := Lib.hid f2
  clear s2 f2
  go_wp2_with fail
  refine (compact_sl _ ss G1 w2 S2.out hss).mono ?_
  rintro e w3 ⟨a3, c3, rfl, s3, f3⟩
  rw [E.out] at s3
  have S3 := Lib.hid s3
  have F3 := Lib.hid f3
  clear s3 f3
  go_wp2_with fail
  go_ret
  refine ⟨a3, c3, G1, by rw [E.out]; rfl, S3.out, ?_, G.out⟩
  have f := (F1.out.mono (by simp)).trans1 (F2.out.trans1 F3.out)
  exact ⟨f.os, f.tape, f.output, f.size, fun k hk _ => f.block k hk fun hm => by
    have := G.out k hm; omega⟩
end Go.Proofs.YtoidafgeckhkcaaGreat

