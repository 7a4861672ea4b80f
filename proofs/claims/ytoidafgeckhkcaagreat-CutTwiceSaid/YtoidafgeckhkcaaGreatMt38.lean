/- anti.order: how two sets stand to one another. anti.part: a part of another one, both sorted; slices.Equal over ints. A new slice, at the end of a call. anti.Sorted. Runs of cells written into a block; clear at several cells. slices.DeleteFunc at numbers; cut's without. -/
import Derived.Test.YtoidafgeckhkcaaGreatMt36
import Derived.Test.YtoidafgeckhkcaaGreatMt37
import Derived.Test.YtoidafgeckhkcaaGreatMt05
import Derived.IntWalk
import Derived.BigQuiet
import Derived.Sort.Grow
import Derived.Test.YtoidafgeckhkcaaGreatMt13
import Derived.Test.YtoidafgeckhkcaaGreatMt14
import Derived.Test.YtoidafgeckhkcaaGreatMt01
import Derived.Laws.IdiomCopy
import Derived.Lib.SliceRun
import Derived.Laws.Append
import Derived.Lib.Overlaps
import Derived.Lib.AppendZerosOnto
import Derived.Lib.JoinLaws
import Derived.Test.YtoidafgeckhkcaaGreatMt03
namespace Go.Proofs.YtoidafgeckhkcaaGreat
open Go.RowKit
set_option linter.unusedSimpArgs false
set_option linter.unusedVariables false

theorem cmpL_at {xs ys : List Int} {k : Nat} (h1 : k < xs.length) (h2 : k < ys.length) : cmpL (xs.drop k) (ys.drop k) = if xs[k] < ys[k] then -1 else if ys[k] < xs[k] then 1 else cmpL (xs.drop (k + 1)) (ys.drop (k + 1)) := by
  rw [List.drop_eq_getElem_cons h1, List.drop_eq_getElem_cons h2]; rfl
theorem cmpL_long {xs ys : List Int} {k : Nat} (h1 : k < xs.length) (h2 : ys.length ≤ k) : cmpL (xs.drop k) (ys.drop k) = 1 := by
  rw [List.drop_eq_getElem_cons h1, List.drop_eq_nil_of_le h2]; rfl
theorem cmpL_short {xs ys : List Int} {k : Nat} (h1 : xs.length ≤ k) (h2 : k < ys.length) : cmpL (xs.drop k) (ys.drop k) = -1 := by
  rw [List.drop_eq_getElem_cons h2, List.drop_eq_nil_of_le h1]; rfl
theorem cmpL_end {xs ys : List Int} {k : Nat} (h1 : xs.length ≤ k) (h2 : ys.length ≤ k) : cmpL (xs.drop k) (ys.drop k) = 0 := by
  rw [List.drop_eq_nil_of_le h1, List.drop_eq_nil_of_le h2]; rfl

theorem cfO_or (xs ys : List Int) : (if cmpI xs.length ys.length = 0 then cmpL xs ys else cmpI xs.length ys.length) = cfO xs ys := by
  unfold cfO cmpI
  by_cases h1 : xs.length < ys.length
  · have : (xs.length : Int) < ys.length := by omega
    simp [h1]
  · by_cases h2 : ys.length < xs.length
    · simp [h1, h2]
    · simp [h1, h2]
end Go.Proofs.YtoidafgeckhkcaaGreat

namespace Go.Proofs.YtoidafgeckhkcaaGreat
open Go.RowKit
set_option linter.unusedSimpArgs false
set_option linter.unusedVariables false

end Go.Proofs.YtoidafgeckhkcaaGreat

namespace Go.Proofs.YtoidafgeckhkcaaGreat
open Go.RowKit
set_option linter.unusedSimpArgs false
set_option linter.unusedVariables false
theorem Blk.fresh {w : World} {T : TypeId} {cs : Array Value} {b : Nat} (h : b = w.heap.size) : Blk (w.alloc (.cells cs T)) b T cs := by subst h; exact Blk.new _ _ _
/-- A new slice. -/
def FreshEnd {α : Type} (T sz : Nat) (enc : α → List Value) (xs : List α) (w : World) (e : Ending) (w' : World) : Prop := ∃ a c G, e = .returned (.slice a xs.length c) ∧ Sl w' T sz enc (.slice a xs.length c) xs G ∧ Frame [] w w' ∧ ∀ x ∈ G, w.heap.size ≤ x
theorem FreshEnd.behind {α : Type} {T sz : Nat} {enc : α → List Value} {xs : List α} {w w1 w' : World} {e : Ending} (f : Frame [] w w1) (h : FreshEnd T sz enc xs w1 e w') : FreshEnd T sz enc xs w e w' := by
  obtain ⟨a, c, G, h1, h2, h3, h4⟩ := h
  exact ⟨a, c, G, h1, h2, f.trans1 h3, fun x hx => Nat.le_trans f.size (h4 x hx)⟩
theorem Sl.row {α : Type} {w : World} {e sz : Nat} {enc : α → List Value} {v : Value} {A B : List α} {x : α} {G : List Nat} (h : Sl w e sz enc v (A ++ x :: B) G) : ∃ b cap, v = .slice (some ⟨b, 0, none⟩) (A ++ x :: B).length cap ∧ G = [b] ∧ RowAt w b e sz (A ++ x :: B).length cap ((A ++ x :: B).flatMap enc) := by
  rcases h with ⟨_, h, _⟩ | h
  · simp at h
  · exact h
end Go.Proofs.YtoidafgeckhkcaaGreat

namespace Go.Proofs.YtoidafgeckhkcaaGreat
open Go.RowKit Go.Sort
set_option linter.unusedSimpArgs false
set_option linter.unusedVariables false

theorem encI_map (xs : List Int) : xs.flatMap Go.Proofs.YtoidafgeckhkcaaGreat.encI = xs.map (Value.int .i64) := by
  induction xs with
  | nil => rfl
  | cons a t ih => rw [List.flatMap_cons, ih]; rfl
theorem fresh_owned {w w' : World} {xs : List Int} {v' : Value} (h : w'.ownsRow w.heap.size 3 1 v' xs.length (xs.map (Value.int .i64))) (hn : v' ≠ .slice none 0 0) (hb : Go.RowKit.Below w.heap.size w w') : FreshEnd 3 1 Go.Proofs.YtoidafgeckhkcaaGreat.encI xs w (.returned v') w' := by
  obtain ⟨h1, h2⟩ := h
  rcases h2 with ⟨e, _⟩ | ⟨g, cap, cur, rfl, hg, hb2, hc, hm, hs, ht⟩
  · exact absurd e hn
  · obtain ⟨b1, b2, b3, b4, b5⟩ := hb
    refine ⟨some ⟨g, 0, none⟩, cap, [g], rfl, .inr ⟨g, cap, rfl, rfl, ?_⟩, ⟨b1, b2, b3, b4, fun k hk _ => b5 k hk⟩, fun x hx => ?_⟩
    · rw [encI_map]
      exact ⟨h1, .inr ⟨g, cap, cur, rfl, Nat.zero_le _, hb2, hc, hm, hs, ht⟩⟩
    · obtain rfl : x = g := by simpa using hx
      exact hg
theorem cloneR (a : Option Addr) (c : Nat) (xs : List Int) (w : World) (h : RdI w a xs) (hl : xs.length ≤ 1000000) :
    Calls Tryz.prog 45 #[.slice a xs.length c] w (FreshEnd 3 1 Go.Proofs.YtoidafgeckhkcaaGreat.encI xs w) := by
  rcases h with rfl | ⟨b, off, rfl, hb, hc⟩
  · cases a with
    | none =>
      refine (Tryz.slices_Clone_int_nil 0 c w).mono ?_
      rintro e w' ⟨rfl, rfl⟩
      exact ⟨none, 0, [], rfl, Sl.nil _ _ _ _, Frame.refl _ _, by simp⟩
    | some a =>
      refine (Tryz.slices_Clone_int_zero a c w).mono ?_
      rintro e w' ⟨v', rfl, h1, h2, h3⟩
      exact fresh_owned (xs := []) h1 h2 h3
  · have := Tryz.slices_Clone_int b off xs.length c xs w (Nat.le_refl _) (by omega) (fun j hj => by
      rw [hc j hj]; simp [List.getD, hj])
    refine this.mono ?_
    rintro e w' ⟨v', rfl, h1, h2, h3⟩
    rw [List.take_length] at h1
    exact fresh_owned h1 h2 h3
theorem put_slm {w : World} {b cap n m : Nat} {xs ys : List Int} {os : Array Obj} (h : RowAt w b 3 1 xs.length cap (xs.flatMap Go.Proofs.YtoidafgeckhkcaaGreat.encI)) (hl : ys.length = xs.length) (hm : m ≤ ys.length) :
    Sl (grow (putRow (Value.int .i64) (Sort.ahead w n) b 0 ys.toArray) os) 3 1 Go.Proofs.YtoidafgeckhkcaaGreat.encI (.slice (some ⟨b, 0, none⟩) m cap) (ys.take m) [b] := by
  obtain ⟨cs, h1, h2, h3, h4, h5⟩ := h.blk
  have hlm : (ys.take m).length = m := by simp; omega
  refine .inr ⟨b, cap, by rw [hlm], rfl, RowAt.of_blk (put_blk h1) (by omega) h3 (by simpa [putCells] using h4) ?_⟩
  have := putCells_take ys.toArray cs (by simp; omega)
  rw [hlm, Nat.mul_one]
  have h9 : (putCells (Value.int .i64) 0 ys.toArray cs).toList.take m = ((putCells (Value.int .i64) 0 ys.toArray cs).toList.take ys.toArray.size).take m := by
    rw [List.take_take, Nat.min_eq_left (by simpa using hm)]
  rw [h9, this, encI_map, encI_map, List.map_take]
theorem compact_len5 (zs : List Int) : (Lib.compact zs).length ≤ zs.length := by
  unfold Lib.compact Lib.compactUpTo
  rw [List.length_map]
  have := List.length_filter_le (Lib.keeps zs.toArray) (List.range zs.length)
  simpa using this
theorem compact_sl (v : Value) (xs : List Int) (G : List Nat) (w : World) (h : Sl w 3 1 Go.Proofs.YtoidafgeckhkcaaGreat.encI v xs G) (hl : xs.length ≤ 1000000) :
    Calls Tryz.prog 68 #[v] w fun e w' => ∃ a c, e = .returned (.slice a (Lib.compact xs).length c) ∧ Sl w' 3 1 Go.Proofs.YtoidafgeckhkcaaGreat.encI (.slice a (Lib.compact xs).length c) (Lib.compact xs) G ∧ Frame G w w' := by
  rcases id h with ⟨rfl, rfl, rfl⟩ | ⟨b, cap, rfl, rfl, hr⟩
  · refine (Tryz.slices_Compact_int_empty none 0 w).mono ?_
    rintro e w' ⟨he, rfl⟩
    exact ⟨none, 0, he, Sl.nil _ _ _ _, Frame.refl _ _⟩
  · obtain ⟨cs, h1, h2, h3, h4, h5⟩ := hr.blk
    have hc := Tryz.slices_Compact_int b 0 cap xs w (holds_sl hr) (by omega) h2
    have hcl := compact_len5 xs
    refine hc.mono ?_
    rintro e w' ⟨he, n, rfl⟩
    have := put_slm (n := n) (os := #[]) (m := (Lib.compact xs).length) hr (ys := Lib.compact xs ++ List.replicate (xs.length - (Lib.compact xs).length) 0) (by simp; omega) (by simp)
    rw [grow_empty, List.take_left] at this
    have f := put_frame (w := w) (b := b) (n := n) (d := (Lib.compact xs ++ List.replicate (xs.length - (Lib.compact xs).length) 0).toArray) (os := #[])
    rw [grow_empty] at f
    exact ⟨some ⟨b, 0, none⟩, cap, he, this, f⟩
set_option maxRecDepth 100000 in
theorem asorted_any (a : Option Addr) (c : Nat) (ls : List Int) (w : World) (h : RdI w a ls) (hl : ls.length ≤ 1000000) :
    Calls Tryz.prog 44 #[.slice a ls.length c] w (FreshEnd 3 1 Go.Proofs.YtoidafgeckhkcaaGreat.encI (srtI ls) w) := by
  have A := Lib.hid (cloneR a c ls w h hl)
  have E := Lib.hid (srtI_compact ls)
  generalize hs : (ls.mergeSort fun x y => decide (x ≤ y)) = ss at E
  have HS := Lib.hid hs
  have hss : ss.length ≤ 1000000 := by rw [← hs]; simpa using hl
  clear h hs
  go_enter Tryz.func44, Tryz.ntmps44
  go_wp2_with fail
  refine A.out.mono ?_
  rintro e w1 ⟨a1, c1, G1, rfl, s1, f1, g1⟩
  have S1 := Lib.hid s1
  have F1 := Lib.hid f1
  have G := Lib.hid g1
  clear s1 f1 g1
  go_wp2_with fail
  refine (sort_sl _ ls G1 w1 S1.out hl).mono ?_
  rintro e w2 ⟨rfl, s2, f2⟩
  rw [HS.out] at s2
  have S2 := Lib.hid s2
  have F2 := Lib.hid f2
  clear s2 f2
  go_wp2_with fail
  refine (compact_sl _ ss G1 w2 S2.out hss).mono ?_
  rintro e w3 ⟨a3, c3, rfl, s3, f3⟩
  rw [E.out] at s3
  have S3 := Lib.hid s3
  have F3 := Lib.hid f3
  clear s3 f3
  go_wp2_with fail
  go_ret
  refine ⟨a3, c3, G1, by rw [E.out]; rfl, S3.out, ?_, G.out⟩
  have f := (F1.out.mono (by simp)).trans1 (F2.out.trans1 F3.out)
  exact ⟨f.os, f.tape, f.output, f.size, fun k hk _ => f.block k hk fun hm => by
    have := G.out k hm; omega⟩
end Go.Proofs.YtoidafgeckhkcaaGreat

namespace Go.Proofs.YtoidafgeckhkcaaGreat
open Go.RowKit
set_option linter.unusedSimpArgs false
set_option linter.unusedVariables false

theorem Frame.setCells (w : World) (b : Nat) : ∀ (vs : List Value) (o : Nat), Frame [b] w (w.setCells b o vs) := by
  intro vs
  induction vs generalizing w with
  | nil => intro o; exact Frame.refl _ _
  | cons v r ih => intro o; exact (Frame.setCell (S := [b]) w ⟨b, o, none⟩ v (by simp)).trans1 (ih _ (o + 1))
theorem size_setCells (w : World) (b : Nat) : ∀ (vs : List Value) (o : Nat), (w.setCells b o vs).heap.size = w.heap.size := by
  intro vs
  induction vs generalizing w with
  | nil => intro o; rfl
  | cons v r ih => intro o; rw [World.setCells, ih]; simp

/-- What a block holds behind a run of writes. -/
def over (cs : List Value) (o : Nat) (vs : List Value) : List Value := cs.take o ++ vs ++ cs.drop (o + vs.length)
theorem over_len {cs vs : List Value} {o : Nat} (h : o + vs.length ≤ cs.length) : (over cs o vs).length = cs.length := by simp [over]; omega
theorem set_toList (cs : Array Value) (o : Nat) (v : Value) (h : o < cs.size) : (cs.setIfInBounds o v).toList = over cs.toList o [v] := by
  rw [Array.toList_setIfInBounds]
  simp only [over, List.length_singleton]
  rw [List.set_eq_take_append_cons_drop, if_pos (by simpa using h)]
  simp
theorem over_cons (cs : List Value) (o : Nat) (v : Value) (r : List Value) (h : o + (r.length + 1) ≤ cs.length) : over (over cs o [v]) (o + 1) r = over cs o (v :: r) := by
  simp only [over, List.length_cons, List.length_nil, Nat.zero_add]
  have h1 : (cs.take o ++ [v] ++ cs.drop (o + 1)).take (o + 1) = cs.take o ++ [v] := by
    rw [List.take_append_of_le_length (by simp; omega)]
    rw [List.take_of_length_le (by simp; omega)]
  have h2 : (cs.take o ++ [v] ++ cs.drop (o + 1)).drop (o + 1 + r.length) = cs.drop (o + (r.length + 1)) := by
    rw [List.drop_append, List.drop_of_length_le (by simp; omega), List.drop_drop]
    simp
    congr 1
    omega
  rw [h1, h2]; simp
theorem Blk.setCells {b T : Nat} : ∀ {vs : List Value} {o : Nat} {cs : Array Value} {w : World}, Blk w b T cs → o + vs.length ≤ cs.size → Blk (w.setCells b o vs) b T (over cs.toList o vs).toArray := by
  intro vs
  induction vs with
  | nil => intro o cs w h _; simpa [over, World.setCells] using h
  | cons v r ih =>
    intro o cs w h hb
    simp only [List.length_cons] at hb
    have h1 := ih (o := o + 1) (h.set o v) (by simp; omega)
    rw [set_toList _ _ _ (by omega), over_cons _ _ _ _ (by simpa using hb)] at h1
    exact h1

theorem run_clear_k {P : Program} (w : World) (t e ty : TypeId) (z : Value) (zs : List Value) (ht : P.underlying t = some (.slice e)) (hv : ∀ w, (zeroValue e).run P w = .ok z w) (b o n c : Nat) (hn : 0 < n)
    (hz : (Builtin.zeroCells z.cells n).toList = zs) (h1 : ∀ v ∈ zs, v.oneCell' = true) (hc : ∀ j, j < zs.length → (w.cell? ⟨b, o + j, none⟩).isSome = true) (hf : ∀ j, j < zs.length → w.frozen? ⟨b, o + j, none⟩ = false) :
    (Builtin.clear_ #[t] ty #[.slice (some ⟨b, o, none⟩) n c]).run P w = .ok (.tuple #[]) (w.setCells b o zs) := by
  have hst := run_storeCells_cells (P := P) b o zs 0 w (by simpa using hc) (by simpa using hf) h1
  simp only [Nat.add_zero] at hst
  obtain ⟨m, rfl⟩ : ∃ m, n = m + 1 := ⟨n - 1, by omega⟩
  simp [Builtin.clear_, run_underlying ht, hv, hz, hst]
theorem run_copy_k {P : Program} (w : World) (dT sT ty elem : TypeId) (b o dLen dCap : Nat) (a : Addr) (sLen sCap m sz : Nat) (cs : List Value)
    (hu : P.underlying dT = some (.slice elem)) (hs : (P.info? elem).map (·.size) = some sz) (hm : m = Nat.min sLen dLen) (hn : cs.length = m * sz)
    (hsrc : ∀ j v, cs[j]? = some v → w.cell? (a.add j) = some v) (hc : ∀ j, j < cs.length → (w.cell? ⟨b, o + j, none⟩).isSome = true) (hf : ∀ j, j < cs.length → w.frozen? ⟨b, o + j, none⟩ = false) (h1 : ∀ v ∈ cs, v.oneCell' = true) :
    (Builtin.copy_ #[dT, sT] ty #[.slice (some ⟨b, o, none⟩) dLen dCap, .slice (some a) sLen sCap]).run P w = .ok (goInt m) (w.setCells b o cs) := by
  have hl := run_firstCells_some (P := P) w sz m a sLen sCap cs hn hsrc
  have hst := run_storeCells_cells (P := P) b o cs 0 w (by simpa using hc) (by simpa using hf) h1
  cases hq : P.info? elem with
  | none => simp [hq] at hs
  | some i =>
    have hi : i.size = sz := by simpa [hq] using hs
    simp [Builtin.copy_, run_underlying hu, Builtin.lenOf, sizeOf, typeInfo, hq, hi, ← hm, hl, hst]
/-- 'copy', where its run is known. -/
theorem wpList_copy_run {P : Program} (w : World) {ops : Array Oper} {rest : List Oper} {o : Oper} {a : Act} {Q : Exit → Act → World → Prop} (hgd : o.guard = none) (d s : Operand) (t t' : TypeId)
    (ho : o.op = .call { callee := .builtin .copy, args := #[d, s], argTypes := #[t, t'] }) (v u : Value) (hd : a.eval d = v) (hs : a.eval s = u) {v' : Value} {w' : World}
    (hr : (Builtin.copy_ #[t, t'] o.type #[v, u]).run P w = .ok v' w') (h : wpList P ops Q rest (a.put o.dst v') w') : wpList P ops Q (o :: rest) a w :=
  wpList_plain hgd fun K hK => by
    unfold Oper.wp execOp
    simp only [ho, resolve, invoke, builtin, Sem.run_bind, Sem.run_pure, Result.andThen_ok, List.map_toArray, List.map_cons, List.map_nil, hd, hs, hr]
    exact hK _ _ h
theorem step_copy_run {P : Program} {ops : Array Oper} {o : Oper} {a : Act} {w : World} {K : Act → World → Prop} {Q : Exit → Act → World → Prop} {E : Prop}
    (hg : o.guard = none) (d x : Operand) (dT sT : TypeId) (hop : o.op = Op.call { callee := Callee.builtin Builtin.copy, args := #[d, x], argTypes := #[dT, sT] })
    (v u : Value) (hd : a.eval d = v) (hx : a.eval x = u) {v' : Value} {w' : World} (hr : (Builtin.copy_ #[dT, sT] o.type #[v, u]).run P w = .ok v' w') (hK : K (a.put o.dst v') w') :
    if Region.wanted o (yielded ops a.tmps) = true then Oper.wp P o a w K Q else E := by
  have hw : Region.wanted o (yielded ops a.tmps) = true := by simp [Region.wanted, hg]
  rw [if_pos hw]
  unfold Oper.wp
  simp [execOp, hop, resolve, invoke, builtin, hd, hx, hr, Result.andThen]
  exact hK
theorem Blk.isSome {w : World} {b T : Nat} {cs : Array Value} (h : Blk w b T cs) {i : Nat} (hi : i < cs.size) : (w.cell? ⟨b, i, none⟩).isSome = true := by rw [h.cell i]; simp [hi]
end Go.Proofs.YtoidafgeckhkcaaGreat

namespace Go.Proofs.YtoidafgeckhkcaaGreat
open Go.RowKit
set_option linter.unusedSimpArgs false
set_option linter.unusedVariables false

theorem zero_int (w : World) : (zeroValue 3).run Tryz.prog w = .ok (.int .i64 0) w := by
  obtain ⟨i0, h2, h3, h4, h5⟩ := info_parts infoInt
  simp [zeroValue, typeInfo, h2, h3]
theorem rowAt_set {w : World} {b e sz n cap : Nat} {xs : List Value} (h : RowAt w b e sz n cap xs) (i : Nat) (v : Value) : RowAt (w.setCell ⟨b, i, none⟩ v) b e sz n cap (xs.set i v) := by
  obtain ⟨cs, h1, h2, h3, h4, h5⟩ := h.blk
  exact RowAt.of_blk (h1.set i v) h2 h3 (by simpa using h4) (by rw [Array.toList_setIfInBounds, List.take_set, h5])
/-- What stays. -/
def keepI (p : Int → Bool) (xs : List Int) : List Int := xs.filter fun e => !p e
theorem keepI_in {p : Int → Bool} {xs : List Int} {k : Nat} {e : Int} (h : xs[k]? = some e) (hm : p e = true) : keepI p (xs.take (k + 1)) = keepI p (xs.take k) := by
  rw [List.take_add_one, h]; simp [keepI, List.filter_append, hm]
theorem keepI_out {p : Int → Bool} {xs : List Int} {k : Nat} {e : Int} (h : xs[k]? = some e) (hm : p e = false) : keepI p (xs.take (k + 1)) = keepI p (xs.take k) ++ [e] := by
  rw [List.take_add_one, h]; simp [keepI, List.filter_append, hm]
def MidI (p : Int → Bool) (xs zs : List Int) (i j : Nat) : Prop := zs.length = xs.length ∧ i < j ∧ j ≤ xs.length ∧ zs.take i = keepI p (xs.take j) ∧ zs.drop j = xs.drop j
theorem MidI.at {p : Int → Bool} {xs zs : List Int} {i j : Nat} (h : MidI p xs zs i j) (hj : j < xs.length) : zs[j]? = some xs[j] := by
  have := congrArg (fun l => l[0]?) h.2.2.2.2
  simpa [List.getElem?_drop, hj] using this
theorem MidI.skip {p : Int → Bool} {xs zs : List Int} {i j : Nat} (h : MidI p xs zs i j) (hj : j < xs.length) (hp : p xs[j] = true) : MidI p xs zs i (j + 1) := by
  obtain ⟨h1, h2, h3, h4, h5⟩ := h
  refine ⟨h1, by omega, hj, by rw [keepI_in (by simp [hj]) hp]; exact h4, ?_⟩
  have := congrArg (List.drop 1) h5
  simpa [List.drop_drop] using this
theorem MidI.keep {p : Int → Bool} {xs zs : List Int} {i j : Nat} (h : MidI p xs zs i j) (hj : j < xs.length) (hp : p xs[j] = false) : MidI p xs (zs.set i xs[j]) (i + 1) (j + 1) := by
  obtain ⟨h1, h2, h3, h4, h5⟩ := h
  refine ⟨by simpa using h1, by omega, hj, ?_, ?_⟩
  · rw [keepI_out (e := xs[j]) (by simp [hj]) hp, ← h4, List.take_set, List.set_eq_take_append_cons_drop, if_pos (by simp; omega), List.take_take, List.drop_of_length_le (by simp; omega), Nat.min_eq_left (by omega)]
  · have := congrArg (List.drop 1) h5
    rw [List.drop_set_of_lt (by omega)]
    simpa [List.drop_drop] using this
theorem idxI_split (p : Int → Bool) (xs : List Int) : (idxI p xs = -1 ∧ keepI p xs = xs) ∨ ∃ k : Nat, idxI p xs = k ∧ k < xs.length ∧ MidI p xs xs k (k + 1) := by
  by_cases h : ∃ k, ∃ hk : k < xs.length, p xs[k] = true ∧ ∀ j (hj : j < xs.length), j < k → p xs[j] = false
  · obtain ⟨k, hk, h1, h2⟩ := h
    refine .inr ⟨k, idxI_at hk (fun j hj => h2 j (by omega) hj) h1, hk, rfl, by omega, hk, ?_, rfl⟩
    rw [keepI_in (e := xs[k]) (by simp [hk]) h1]
    unfold keepI
    rw [List.filter_eq_self.2]
    intro e he
    obtain ⟨j, hj, rfl⟩ := List.getElem_of_mem he
    have hj2 : j < k ∧ j < xs.length := by simp at hj; omega
    have := h2 j hj2.2 hj2.1
    simp [this]
  · have hn : ∀ j (hj : j < xs.length), p xs[j] = false := by
      intro j
      induction j using Nat.strongRecOn with
      | _ j ih =>
        intro hj
        cases hpj : p xs[j] with
        | false => rfl
        | true => exact absurd ⟨j, hj, hpj, fun i hi hl => ih i hl hi⟩ h
    refine .inl ⟨idxI_none hn, ?_⟩
    unfold keepI
    rw [List.filter_eq_self.2]
    intro e he
    obtain ⟨j, hj, rfl⟩ := List.getElem_of_mem he
    simp [hn j hj]
theorem clear_ints {wr : World} {b n cap i : Nat} {zs : List Int} (hr : RowAt wr b 3 1 n cap (zs.flatMap encI)) (hz : zs.length = n) (hi : i < n) : ∃ w', (∀ ty, (Builtin.clear_ #[23] ty #[.slice (some ⟨b, i, none⟩) (n - i) (cap - i)]).run Tryz.prog wr = .ok (.tuple #[]) w') ∧ RowAt w' b 3 1 i cap ((zs.take i).flatMap encI) ∧ Frame [b] wr w' := by
  obtain ⟨cs, hb, hn, hcm, hcs, htk⟩ := hr.blk
  obtain ⟨ZS, hZS⟩ : ∃ ZS, (Builtin.zeroCells (Value.int .i64 0).cells (n - i)).toList = ZS := ⟨_, rfl⟩
  have hc4 : (Value.int .i64 0).cells = #[.int .i64 0] := by kernel_rfl
  have hlen : ZS.length = n - i := by rw [← hZS, hc4]; simp [Builtin.zeroCells]
  have hone : ∀ v ∈ ZS, v.oneCell' = true := by
    intro v hv
    rw [← hZS, hc4] at hv
    simp only [Builtin.zeroCells, Array.toList_map, List.mem_map] at hv
    obtain ⟨j, -, rfl⟩ := hv
    have h5 : j % (#[Value.int .i64 0] : Array Value).size = 0 := Nat.mod_one j
    rw [h5]
    rfl
  have hfit : i + ZS.length ≤ cs.size := by rw [hlen, hcs]; omega
  refine ⟨wr.setCells b i ZS, fun ty => run_clear_k wr _ _ ty _ _ Tryz.underlying23 zero_int b i (n - i) _ (by omega) hZS hone (fun j hj => hb.isSome (by omega)) (fun j hj => hb.frozen _), ?_, Frame.setCells _ _ _ _⟩
  refine RowAt.of_blk (Blk.setCells hb hfit) (by omega) hcm ?_ ?_
  · rw [List.size_toArray, over_len (by simpa using hfit)]; simpa using hcs
  · show (over cs.toList i ZS).take (i * 1) = _
    unfold over
    rw [List.append_assoc, List.take_append_of_le_length (by simp; omega), Nat.mul_one, List.take_take, Nat.min_self]
    have : cs.toList.take i = (cs.toList.take (n * 1)).take i := by rw [List.take_take]; congr 1; omega
    rw [this, htk]
    conv => lhs; rw [← List.take_append_drop i zs, List.flatMap_append]
    have hfl : ((zs.take i).flatMap encI).length = i := by rw [flat_len (sz := 1) encI_len, List.length_take, hz]; omega
    rw [List.take_append_of_le_length (by rw [hfl]; exact Nat.le_refl _), List.take_of_length_le (by rw [hfl]; exact Nat.le_refl _)]
theorem set_flatI {zs : List Int} {i : Nat} (z : Int) : (zs.flatMap encI).set i (.int .i64 z) = (zs.set i z).flatMap encI := by
  rw [encI_map, encI_map, List.map_set]

set_option maxHeartbeats 8000000 in
set_option maxRecDepth 100000 in
theorem delFunc_int (b cap : Nat) (xs : List Int) (K : Nat) (caps : Array Value) (p : Int → Bool) (w : World) (hx : RowAt w b 3 1 xs.length cap (xs.flatMap encI)) (hl : xs.length ≤ 1000000) (hK : Entered K)
    (hp : ∀ w', Frame [b] w w' → ∀ e : Int, Calls Tryz.prog K (#[.int .i64 e] ++ caps) w' fun x w'' => x = .returned (.bool (p e)) ∧ Frame [] w' w'') :
    Calls Tryz.prog 69 #[.slice (some ⟨b, 0, none⟩) xs.length cap, .func (.func K) #[] caps] w fun e w' => e = .returned (.slice (some ⟨b, 0, none⟩) (keepI p xs).length cap) ∧ RowAt w' b 3 1 (keepI p xs).length cap ((keepI p xs).flatMap encI) ∧ Frame [b] w w' := by
  have hrd : RdI w (some ⟨b, 0, none⟩) xs := .inr ⟨b, 0, rfl, hx.lt, fun k hk => by rw [Nat.zero_add]; exact hx.cell (by rw [encI_map]; simp [hk])⟩
  have HI := Lib.hid (fun w' (f : Frame [] w w') => indexFunc_int (some ⟨b, 0, none⟩) cap xs K caps p w' (hrd.frame f) (by omega) ⟨hK, fun w'' f' e => hp w'' ((f.mono (by simp)).trans1 (f'.mono (by simp))) e⟩)
  have HX := Lib.hid hx
  have HP := Lib.hid hp
  have hb := hx.lt
  have hcap : xs.length ≤ cap ∧ cap ≤ 9223372036854775807 := by
    obtain ⟨cs, h1, h2, h3, _⟩ := hx.blk
    exact ⟨h2, by unfold maxLen at h3; omega⟩
  clear hx hp hrd
  rcases idxI_split p xs with ⟨h1, h2⟩ | ⟨k, h1, hk, hM⟩
  · rw [h1] at HI
    rw [h2]
    clear h1 h2
    go_enter Tryz.func69, Tryz.ntmps69
    go_wp2_with fail
    refine (HI.out _ (by (repeat first | assumption | exact Frame.refl _ _ | refine Frame.trans1 ?_ (Frame.alloc _ _ _) | refine Frame.trans1 ?_ (Frame.drew _ _) | refine Frame.trans1 ?_ (Frame.drewN _ _ _)))).mono ?_
    rintro e w2 ⟨rfl, f2⟩
    have F2 := Lib.hid f2
    clear f2
    go_wp2_with fail
    go_ret
    exact ⟨rfl, HX.out.frame F2.out (by simp), F2.out.mono (by simp)⟩
  rw [h1] at HI
  have HM := Lib.hid hM
  clear h1 hM
  go_enter Tryz.func69, Tryz.ntmps69
  go_wp2_with fail
  refine (HI.out _ (by (repeat first | assumption | exact Frame.refl _ _ | refine Frame.trans1 ?_ (Frame.alloc _ _ _) | refine Frame.trans1 ?_ (Frame.drew _ _) | refine Frame.trans1 ?_ (Frame.drewN _ _ _)))).mono ?_
  rintro e w2 ⟨rfl, f2⟩
  have F2 := Lib.hid f2
  clear f2
  go_wp2_with fail
  go_loopw [5, 6, 7] (fun iv jv _ wr => ∃ (i j : Nat) (zs : List Int), iv = .int .i64 i ∧ jv = .int .i64 j ∧ j ≤ xs.length ∧ i < j ∧ Hid (MidI p xs zs i j ∧ RowAt wr b 3 1 xs.length cap (zs.flatMap encI) ∧ Frame [b] w wr)) (fun _ j _ _ => xs.length - (intOf j).toNat)
  case atStart => exact ⟨k, k + 1, xs, rfl, by first | rfl | go_num, hk, by omega, HM.out, HX.out.frame F2.out (by simp), F2.out.mono (by simp)⟩
  case round =>
    obtain ⟨i, j, zs, rfl, rfl, hj, hij, hR⟩ := hrel
    rename World => wr
    by_cases hlt : j < xs.length
    · have gj := hR.out.1.at hlt
      have hzi : i < zs.length := by rw [hR.out.1.1]; omega
      have gi : zs[i]? = some zs[i] := by simp [hzi]
      have MS := Lib.hid (hR.out.1.skip hlt)
      have MK := Lib.hid (hR.out.1.keep hlt)
      generalize xs[j] = x at *
      generalize zs[i] = y at *
      have d0 := hR.out.2.1.cell (flat_get (sz := 1) encI_len gj (j := 0) rfl)
      simp only [Nat.add_zero, Nat.mul_one] at d0
      have hcall := hK (#[.int .i64 x] ++ caps)
      have GI := Lib.hid gi
      clear gj gi
      go_wp2_with fail
      refine (HP.out _ (hR.out.2.2) x).mono ?_
      rintro e w3 ⟨rfl, f3⟩
      have row3 := hR.out.2.1.frame f3 (by simp)
      have s0 := row3.cell (flat_get (sz := 1) encI_len GI.out (j := 0) rfl)
      simp only [Nat.add_zero, Nat.mul_one] at s0
      have r0 := row3.frozen i
      have ROW := Lib.hid row3
      have FA := Lib.hid (hR.out.2.2.trans0 f3)
      clear d0 row3 f3
      cases hpx : p x with
      | true =>
        go_wp2_with fail
        go_roundw
        case rel => refine ⟨_, _, _, _, _, _, _, _, _, _, _, _, _, _, _, _, _, _, _, _, _, _, _, ?_, rfl⟩; exact ⟨i, j + 1, zs, by first | rfl | go_num, by first | rfl | go_num, by omega, by omega, MS.out hpx, ROW.out, FA.out⟩
        case measure => first | (simp [intOf]; done) | (simp [intOf]; omega)
      | false =>
        go_wp2_with fail
        go_roundw
        case rel =>
          refine ⟨_, _, _, _, _, _, _, _, _, _, _, _, _, _, _, _, _, _, _, _, _, _, _, ?_, rfl⟩
          refine ⟨i + 1, j + 1, zs.set i x, by first | rfl | go_num, by first | rfl | go_num, by omega, by omega, MK.out hpx, ?_, FA.out.trans1 (Frame.setCell _ _ _ (by simp))⟩
          have := rowAt_set ROW.out i (.int .i64 x)
          rw [set_flatI x] at this
          exact this
        case measure => first | (simp [intOf]; done) | (simp [intOf]; omega)
    · obtain rfl : j = xs.length := by omega
      obtain ⟨wc, hcl, hrc, hfc⟩ := clear_ints hR.out.2.1 hR.out.1.1 hij
      have RC := Lib.hid hrc
      have FC := Lib.hid (hR.out.2.2.trans1 hfc)
      have hkl : i = (keepI p xs).length := by
        have := congrArg List.length hR.out.1.2.2.2.1
        rw [List.take_length] at this
        rw [← this, List.length_take, hR.out.1.1]
        omega
      have hkt : Hid (zs.take i = keepI p xs) := by
        show _ = _
        have := hR.out.1.2.2.2.1
        rw [List.take_length] at this
        exact this
      have HKL := Lib.hid hkl
      clear hrc hfc hkl
      go_wp2_with fail
      go_ret
      refine ⟨by rw [← HKL.out]; first | rfl | (simp; done), ?_, FC.out⟩
      have := RC.out
      rw [hkt.out] at this
      rw [← HKL.out]
      exact this
/-- .. over a row that may be nil. -/
theorem delFunc_isl (a : Option Addr) (n cap : Nat) (xs : List Int) (G : List Nat) (K : Nat) (caps : Array Value) (p : Int → Bool) (w : World) (hx : Sl w 3 1 encI (.slice a n cap) xs G) (hl : xs.length ≤ 1000000) (hK : Entered K)
    (hp : ∀ w', Frame G w w' → ∀ e : Int, Calls Tryz.prog K (#[.int .i64 e] ++ caps) w' fun x w'' => x = .returned (.bool (p e)) ∧ Frame [] w' w'') :
    Calls Tryz.prog 69 #[.slice a n cap, .func (.func K) #[] caps] w fun e w' => e = .returned (.slice a (keepI p xs).length cap) ∧ Sl w' 3 1 encI (.slice a (keepI p xs).length cap) (keepI p xs) G ∧ Frame G w w' := by
  have hx0 := hx
  rcases hx with ⟨h1, h2, h3⟩ | ⟨b, cap', h1, h2, h3⟩
  · injection h1 with e1 e2 e3
    subst e1 e2 e3 h2 h3
    have HI := Lib.hid (fun w' (f : Frame [] w w') => indexFunc_int none 0 [] K caps p w' (.inl rfl) (by simp) ⟨hK, fun w'' f' e => hp w'' (f.trans1 f') e⟩)
    have HX := Lib.hid hx0
    rw [show idxI p [] = -1 from rfl] at HI
    clear hp hx0
    go_enter Tryz.func69, Tryz.ntmps69
    go_wp2_with fail
    refine (HI.out _ (by (repeat first | assumption | exact Frame.refl _ _ | refine Frame.trans1 ?_ (Frame.alloc _ _ _) | refine Frame.trans1 ?_ (Frame.drew _ _) | refine Frame.trans1 ?_ (Frame.drewN _ _ _)))).mono ?_
    rintro e w2 ⟨rfl, f2⟩
    have F2 := Lib.hid f2
    clear f2
    go_wp2_with fail
    go_ret
    exact ⟨rfl, HX.out.frame0 F2.out, F2.out⟩
  · injection h1 with e1 e2 e3
    subst e1 e2 e3 h2
    refine (delFunc_int b cap xs K caps p w h3 hl hK hp).mono ?_
    rintro e w' ⟨rfl, r, f⟩
    exact ⟨rfl, .inr ⟨b, cap, rfl, rfl, r⟩, f⟩
theorem entered_cutwithout1 : Entered 70 := by intro args w; simp [go_sem]
theorem cutwithout1_any (k n : Int) (nb : Nat) (w : World) (h : Blk w nb 3 #[.int .i64 n]) :
    Calls Tryz.prog 70 #[.int .i64 k, .pointer (some ⟨nb, 0, none⟩)] w fun x w' => x = .returned (.bool (k == n)) ∧ w' = w := by
  have c0 := h.at 0 rfl
  go_enter Tryz.func70, Tryz.ntmps70
  go_wp2_with fail
  go_ret
  exact ⟨rfl, rfl⟩
/-- Numbers but one. -/
def butI (n : Int) (xs : List Int) : List Int := keepI (fun k => k == n) xs
theorem cutwithout_any (a : Option Addr) (c : Nat) (xs : List Int) (n : Int) (w : World) (h : RdI w a xs) (hl : xs.length ≤ 1000000) :
    Calls Tryz.prog 46 #[.slice a xs.length c, .int .i64 n] w (FreshEnd 3 1 encI (butI n xs) w) := by
  have hmf := run_makeFunc
  have CL := Lib.hid (fun w' (f : Frame [] w w') => cloneR a c xs w' (h.frame f) hl)
  clear h
  go_enter Tryz.func46, Tryz.ntmps46
  have B0 := Lib.hid (Blk.new w 3 #[.int .i64 n])
  have F0 := Lib.hid (Frame.alloc [] w (.cells #[.int .i64 n] 3))
  go_wp2_with fail
  refine (CL.out _ F0.out).mono ?_
  rintro e w2 ⟨a2, c2, G2, rfl, s2, f2, n2⟩
  have hnw : ∀ x ∈ G2, w.heap.size < x := fun x hx => by have h1 := n2 x hx; rw [World.size_alloc] at h1; omega
  have DF := Lib.hid (delFunc_isl a2 xs.length c2 xs G2 70 #[.pointer (some ⟨w.heap.size, 0, none⟩)] (fun k => k == n) w2 s2 hl entered_cutwithout1 (fun w' f e => (cutwithout1_any e n w.heap.size w' ((B0.out.frame f2 (by simp)).frame f (fun hm => by have := hnw _ hm; omega))).mono fun x w'' ⟨h1, h2⟩ => ⟨h1, h2 ▸ Frame.refl _ _⟩))
  have F2 := Lib.hid (And.intro (F0.out.trans1 f2) hnw)
  clear s2 f2 n2 hnw
  go_wp2_with fail
  refine DF.out.mono ?_
  rintro e w3 ⟨rfl, s3, f3⟩
  have E := Lib.hid (And.intro s3 f3)
  clear s3 f3 DF
  go_wp2_with fail
  go_ret
  exact ⟨a2, c2, G2, rfl, E.out.1, F2.out.1.trans E.out.2 (fun x hx => .inr (by have := F2.out.2 x hx; omega)), fun x hx => by have := F2.out.2 x hx; omega⟩
end Go.Proofs.YtoidafgeckhkcaaGreat

