/- A map from numbers to numbers; circuits cut: pure. cut.must, cut.again. (printed by gen_again.py) cut.Restrict's closure: the circuit, made again. -/
import Derived.Test.YtbnhhmejlglbcaaGreatMa09
import Derived.Test.YtbnhhmejlglbcaaGreatMa18
import Derived.Test.YtbnhhmejlglbcaaGreatMa19
import Derived.Test.YtbnhhmejlglbcaaGreatMa05
import Derived.Test.YtbnhhmejlglbcaaGreatMa02
import Derived.Test.YtbnhhmejlglbcaaGreatMa24
import Derived.IntWalk
namespace Go.Proofs.YtbnhhmejlglbcaaGreat
open Go.RowKit
set_option linter.unusedSimpArgs false
set_option linter.unusedVariables false

theorem lookup_ii (w : World) (mb : Nat) (l : List (Int × Value)) (clock : Nat) (k : Int) (p : Nat) (v : Value) (h : MBlk w mb (entI l).toArray clock) (hf : findI k l 0 = some (p, v)) :
    (Instr.lookup 131 (.map (some mb)) (.int .i64 k) false).run Tryz.prog w = .ok v w := by
  have h2 := findNow_int .i64 k l 0
  rw [hf] at h2
  have hg : (getObj mb).run Tryz.prog w = .ok (.map (entI l).toArray clock) w := by unfold MBlk at h; simp [getObj, Sem.run, h]
  have hc : ∀ e, (Instr.checkKey e 10000 3 (.int .i64 k)).run Tryz.prog w = .ok () w := fun e => checkKey_int e 9999 k w
  have hk : (Instr.findKey 3 (.int .i64 k) (entI l)).run Tryz.prog w = .ok (some (p, v)) w := by
    simp only [Instr.findKey, entI, go_sem]
    simp [h2, go_sem]
  simp [Instr.lookup, go_sem, hg, hc, hk]
theorem update_ii (w : World) (mb : Nat) (l : List (Int × Value)) (k : Int) (v : Value) (h : MBlk w mb (entI l).toArray l.length) (hf : findI k l 0 = none) :
    (Instr.mapUpdate 131 (.map (some mb)) (.int .i64 k) v).run Tryz.prog w = .ok () (setMap w mb (entI (l ++ [(k, v)])).toArray (l.length + 1)) := by
  have h2 := findNow_int .i64 k l 0
  rw [hf] at h2
  have hg : (getObj mb).run Tryz.prog w = .ok (.map (entI l).toArray l.length) w := by unfold MBlk at h; simp [getObj, Sem.run, h]
  have hc : ∀ e, (Instr.checkKey e 10000 3 (.int .i64 k)).run Tryz.prog w = .ok () w := fun e => checkKey_int e 9999 k w
  have hk : (Instr.findKey 3 (.int .i64 k) (entI l)).run Tryz.prog w = .ok none w := by
    simp only [Instr.findKey, entI, go_sem]
    simp [h2, go_sem]
  have hs : ∀ o, (setObj mb o).run Tryz.prog w = .ok () { w with heap := w.heap.setIfInBounds mb o } := by intro o; unfold MBlk at h; simp [setObj, Sem.run, h]
  have he : (entI l).toArray.push { key := .int .i64 k, val := v, born := l.length } = (entI (l ++ [(k, v)])).toArray := by simp [entI, List.zipIdx_append]
  simp [Instr.mapUpdate, go_sem, hg, hc, hk, hs, ← he, setMap]
/-- A map of what gates became. -/
def IMap (bm : Nat → Int) (w : World) (mb : Nat) (ks : List Nat) : Prop :=
  ∃ es : List (Int × Value), MBlk w mb (entI es).toArray es.length ∧ es.map Prod.fst = ks.map (fun j : Nat => (j : Int)) ∧ ∀ k v, (k, v) ∈ es → ∃ j : Nat, k = j ∧ v = .int .i64 (bm j)
section
variable {bm : Nat → Int} {w w' : World} {mb : Nat} {ks : List Nat}
theorem IMap.new (bm : Nat → Int) (w : World) : IMap bm (w.alloc (.map #[] 0)) w.heap.size [] := ⟨[], MBlk.new _ _ _, rfl, by simp⟩
theorem IMap.lt (h : IMap bm w mb ks) : mb < w.heap.size := by obtain ⟨es, h1, _⟩ := h; exact h1.lt
theorem IMap.frame {S : List Nat} (h : IMap bm w mb ks) (f : Frame S w w') (hS : mb ∉ S) : IMap bm w' mb ks := by
  obtain ⟨es, h1, h2, h3⟩ := h
  exact ⟨es, h1.frame f hS, h2, h3⟩
theorem IMap.look (h : IMap bm w mb ks) {j : Nat} (hj : j ∈ ks) : ∀ w', Frame [] w w' → (Instr.lookup 131 (.map (some mb)) (.int .i64 j) false).run Tryz.prog w' = .ok (.int .i64 (bm j)) w' := by
  obtain ⟨es, h1, h2, h3⟩ := h
  obtain ⟨p, v, a, b⟩ := findI_some (k := (j : Int)) es 0 (by rw [h2]; exact List.mem_map_of_mem hj)
  obtain ⟨j', e, c⟩ := h3 _ _ b
  have : j' = j := by omega
  subst this c
  exact fun w' f => lookup_ii w' mb es _ _ p _ (h1.frame f (by simp)) a
theorem IMap.put (h : IMap bm w mb ks) {k : Nat} (hk : k ∉ ks) (x : Int) :
    ∃ w', (Instr.mapUpdate 131 (.map (some mb)) (.int .i64 k) (.int .i64 x)).run Tryz.prog w = .ok () w' ∧ IMap (fun j => if j = k then x else bm j) w' mb (ks ++ [k]) ∧ Frame [mb] w w' := by
  obtain ⟨es, h1, h2, h3⟩ := h
  have f : Frame [mb] w (setMap w mb (entI (es ++ [((k : Int), .int .i64 x)])).toArray (es.length + 1)) := Frame.setMap _ _ _ _ (by simp)
  refine ⟨_, update_ii w mb es k _ h1 (findI_none es 0 ?_), ⟨es ++ [((k : Int), .int .i64 x)], by simpa using h1.set (entI (es ++ [((k : Int), .int .i64 x)])).toArray (es.length + 1), by simp [h2], ?_⟩, f⟩
  · rw [h2]
    intro hm
    obtain ⟨j, hj, e⟩ := List.mem_map.mp hm
    have : j = k := by omega
    exact hk (this ▸ hj)
  · intro k' v' hm
    rw [List.mem_append] at hm
    rcases hm with hm | hm
    · obtain ⟨j, a, b⟩ := h3 k' v' hm
      have : j ≠ k := by
        rintro rfl
        have h4 : k' ∈ es.map Prod.fst := List.mem_map_of_mem (f := Prod.fst) hm
        rw [h2] at h4
        obtain ⟨i, hi, e⟩ := List.mem_map.mp h4
        have : i = j := by omega
        exact hk (this ▸ hi)
      exact ⟨j, a, by simp only; rw [if_neg this]; exact b⟩
    · simp at hm
      obtain ⟨rfl, rfl⟩ := hm
      exact ⟨k, rfl, by simp⟩
end
/-! ### cut: pure -/
/-- A gate, made again of what its parts became. -/
def againV (dead : Int → Bool) (bm : Nat → Int) (g : Gt) (l : List Gt) (left : Int) : (Int × Int) × List Gt × Int :=
  if g.k = 2 then ((1, 0), l, left) else if g.k = 3 then (if dead g.a = true then ((0, 0), l, left) else mkVar g.a l left)
  else if g.k = 4 then mkPlus (bm g.a.toNat) (bm g.b.toNat) l left else if g.k = 5 then mkTimes (bm g.a.toNat) (bm g.b.toNat) l left
  else if g.k = 6 then mkStar (bm g.a.toNat) l left else ((0, 0), l, left)
structure CutSt where
  bm : Nat → Int
  l : List Gt
  left : Int
  e : Int
def cutStep (dead : Int → Bool) (l : List Gt) (s : CutSt) (k : Nat) : CutSt :=
  if s.e ≠ 0 then s else match l[k]? with
  | none => s
  | some g => ⟨fun j => if j = k then (againV dead s.bm g s.l s.left).1.1 else s.bm j, (againV dead s.bm g s.l s.left).2.1, (againV dead s.bm g s.l s.left).2.2, (againV dead s.bm g s.l s.left).1.2⟩
def cutV (dead : Int → Bool) (l : List Gt) (ks : List Nat) (left : Int) : CutSt := ks.foldl (cutStep dead l) ⟨fun _ => 0, init, left, 0⟩
theorem cutV_next {dead : Int → Bool} {l : List Gt} {ks : List Nat} {left : Int} {t k : Nat} (h : ks[t]? = some k) : cutV dead l (ks.take (t + 1)) left = cutStep dead l (cutV dead l (ks.take t) left) k := by
  unfold cutV; rw [take_one h, List.foldl_append]; rfl
theorem cutStep_at {dead : Int → Bool} {l : List Gt} {s : CutSt} {k : Nat} {g : Gt} (he : s.e = 0) (hg : l[k]? = some g) : cutStep dead l s k = ⟨fun j => if j = k then (againV dead s.bm g s.l s.left).1.1 else s.bm j, (againV dead s.bm g s.l s.left).2.1, (againV dead s.bm g s.l s.left).2.2, (againV dead s.bm g s.l s.left).1.2⟩ := by
  unfold cutStep; rw [if_neg (by simp [he]), hg]
theorem cutStep_err {dead : Int → Bool} {l : List Gt} {s : CutSt} (he : s.e ≠ 0) (k : Nat) : cutStep dead l s k = s := by unfold cutStep; rw [if_pos he]
theorem cutFold_err {dead : Int → Bool} {l : List Gt} {s : CutSt} (he : s.e ≠ 0) : ∀ ks : List Nat, ks.foldl (cutStep dead l) s = s
  | [] => rfl
  | k :: ks => by rw [List.foldl_cons, cutStep_err he, cutFold_err he ks]
/-- An error stays. -/
theorem cutV_err {dead : Int → Bool} {l : List Gt} {ks : List Nat} {left : Int} (h : (cutV dead l ks left).e = 0) (t : Nat) : (cutV dead l (ks.take t) left).e = 0 := by
  apply Classical.byContradiction
  intro hn
  have e : cutV dead l ks left = (ks.drop t).foldl (cutStep dead l) (cutV dead l (ks.take t) left) := by
    unfold cutV; rw [← List.foldl_append, List.take_append_drop]
  rw [e, cutFold_err hn] at h
  exact hn h
end Go.Proofs.YtbnhhmejlglbcaaGreat

namespace Go.Proofs.YtbnhhmejlglbcaaGreat
open Go.RowKit
set_option linter.unusedSimpArgs false
set_option linter.unusedVariables false

theorem must_ok (k : Int) (w : World) : Calls Tryz.prog 123 #[.int .i64 k, .int .i64 0] w fun e w' => e = .returned (.int .i64 k) ∧ w' = w := by
  go_enter Tryz.func123, Tryz.ntmps123
  go_wp2_with fail
  go_ret
  exact ⟨rfl, rfl⟩
theorem must_bad (k c : Int) (w : World) (hc : c ≠ 0) : Calls Tryz.prog 123 #[.int .i64 k, .int .i64 c] w fun e w' => ∃ chain, e = .panicked chain ∧ bailing w c k chain w' ∧ Frame [] w w' := by
  have hb : (c != 0) = true := by simp [bne, hc]
  clear hc
  go_enter Tryz.func123, Tryz.ntmps123
  go_wp2_with fail
  refine (out_any c k w).mono ?_
  rintro e w1 ⟨chain, rfl, h1, h2⟩
  exact ⟨rfl, chain, rfl, h1, h2⟩
/-- Made again, or out of budget. -/
def AgainEnd (r : (Int × Int) × List Gt × Int) (qb : Nat) (Q : List Nat) (w : World) (e : Ending) (w' : World) : Prop :=
  (r.1.2 = 0 → e = .returned (.int .i64 r.1.1) ∧ StEnd w qb Q r.2.1 r.2.2 w') ∧ (r.1.2 ≠ 0 → ∃ chain, e = .panicked chain ∧ bailing w r.1.2 r.1.1 chain w' ∧ Frame Q w w')

set_option maxHeartbeats 4000000 in
set_option maxRecDepth 100000 in
theorem again_any (qb : Nat) (Q : List Nat) (l : List Gt) (left : Int) (bm : Nat → Int) (mb : Nat) (ks : List Nat) (g : Gt) (ta : Option Addr) (tc : Nat) (ts : List Int) (dead : Int → Bool) (w : World)
    (h : St w qb Q l left) (h0 : 0 < l.length) (hm : IMap bm w mb ks) (ht : RdI w ta ts) (htl : ts.length ≤ 1000000) (hdead : ∀ t, dead t = true ↔ t ∈ ts)
    (h2 : g.k = 4 ∨ g.k = 5 → ∃ a b : Nat, g.a = (a : Int) ∧ g.b = (b : Int) ∧ a ∈ ks ∧ b ∈ ks) (h1 : g.k = 6 → ∃ a : Nat, g.a = (a : Int) ∧ a ∈ ks) :
    Calls Tryz.prog 84 #[.pointer (some ⟨qb, 0, none⟩), .agg #[.int .i64 g.k, .int .i64 g.a, .int .i64 g.b], .map (some mb), .slice ta ts.length tc] w (AgainEnd (againV dead bm g l left) qb Q w) := by
  obtain ⟨gk, ga, gb⟩ := g
  simp only at h1 h2 ⊢
  have H := Lib.hid h
  have M := Lib.hid hm
  have CI := Lib.hid (conI ta tc ts ga (w.alloc (.cells #[.int .i64 gk, .int .i64 ga, .int .i64 gb] 112)) (ht.frame (Frame.alloc [] _ _)) htl (dead ga) (hdead ga))
  clear h hm ht hdead
  have SELF := Lib.hid (H.out.frame0 (Frame.alloc [] w (.cells #[.int .i64 gk, .int .i64 ga, .int .i64 gb] 112)))
  have self : ∀ w' (f : Frame [] w w'), StEnd w qb Q l left w' := fun w' f => StEnd.self H.out f
  have SF := Lib.hid self
  clear self SELF
  by_cases k2 : gk = 2
  · subst k2
    have e : againV dead bm ⟨2, ga, gb⟩ l left = ((1, 0), l, left) := by simp [againV]
    rw [e]
    clear e
    go_enter Tryz.func84, Tryz.ntmps84
    go_wp2_with fail
    go_ret
    exact ⟨fun _ => ⟨rfl, SF.out _ (Frame.alloc [] _ _)⟩, fun h => absurd rfl h⟩
  by_cases k3 : gk = 3 ∧ dead ga = true
  · obtain ⟨rfl, hd⟩ := k3
    have e : againV dead bm ⟨3, ga, gb⟩ l left = ((0, 0), l, left) := by simp [againV, hd]
    rw [e]
    rw [hd] at CI
    clear e hd
    go_enter Tryz.func84, Tryz.ntmps84
    go_wp2_with fail
    refine CI.out.mono ?_
    rintro e w5 ⟨rfl, f5⟩
    go_wp2_with fail
    go_ret
    exact ⟨fun _ => ⟨rfl, SF.out _ ((Frame.alloc [] _ _).trans1 f5)⟩, fun h => absurd rfl h⟩
  by_cases k3b : gk = 3
  · subst k3b
    have hd : dead ga = false := by cases hdd : dead ga with
      | true => exact absurd ⟨rfl, hdd⟩ k3
      | false => rfl
    have e : againV dead bm ⟨3, ga, gb⟩ l left = mkVar ga l left := by simp [againV, hd]
    rw [e]
    have hv : ∀ w1 (f : Frame [] w w1), _ := fun w1 f => var_any qb Q l left ga w1 (H.out.frame0 f) h0
    generalize mkVar ga l left = q at *
    obtain ⟨⟨q1, q2⟩, ql, qf⟩ := q
    simp only at hv ⊢
    have HV := Lib.hid hv
    rw [hd] at CI
    clear hv e hd k3
    go_enter Tryz.func84, Tryz.ntmps84
    go_wp2_with fail
    refine CI.out.mono ?_
    rintro e w4 ⟨rfl, f4⟩
    have g1 := ((Blk.new w 112 #[.int .i64 3, .int .i64 ga, .int .i64 gb]).frame f4 (by simp)).at 1 rfl
    have F4 := Lib.hid ((Frame.alloc [] w (.cells #[.int .i64 3, .int .i64 ga, .int .i64 gb] 112)).trans1 f4)
    clear f4
    go_wp2_with fail
    refine (HV.out _ F4.out).mono ?_
    rintro e w5 ⟨rfl, s5⟩
    have S5 := Lib.hid (StEnd.behind F4.out s5)
    clear s5 HV
    by_cases hq : q2 = 0
    · subst hq
      go_wp2_with fail
      refine (must_ok _ _).mono ?_
      rintro e w6 ⟨rfl, rfl⟩
      go_wp2_with fail
      go_ret
      exact ⟨fun _ => ⟨rfl, S5.out⟩, fun h => absurd rfl h⟩
    · have HQ := Lib.hid hq
      clear hq
      go_wp2_with fail
      refine (must_bad _ _ _ HQ.out).mono ?_
      rintro e w6 ⟨chain, rfl, b6, f6⟩
      obtain ⟨F', s1, s2, s3⟩ := S5.out
      obtain ⟨nb, n1, n2, n3⟩ := b6
      exact ⟨rfl, fun h => absurd h HQ.out, fun _ => ⟨chain, rfl, ⟨nb, n1, Nat.le_trans s2.size n2, n3⟩, s2.trans0 f6⟩⟩
  by_cases k4 : gk = 4
  · subst k4
    obtain ⟨a, b, rfl, rfl, hma, hmb⟩ := h2 (.inl rfl)
    have la := M.out.look hma _ (Frame.alloc [] w (.cells #[.int .i64 4, .int .i64 a, .int .i64 b] 112))
    have lb := M.out.look hmb _ (Frame.alloc [] w (.cells #[.int .i64 4, .int .i64 a, .int .i64 b] 112))
    have e : againV dead bm ⟨4, (a : Int), (b : Int)⟩ l left = mkPlus (bm a) (bm b) l left := by simp [againV]
    rw [e]
    have hv : ∀ w1 (f : Frame [] w w1), _ := fun w1 f => plus_any qb Q l left (bm a) (bm b) w1 (H.out.frame0 f) h0
    generalize mkPlus (bm a) (bm b) l left = q at *
    obtain ⟨⟨q1, q2⟩, ql, qf⟩ := q
    simp only at hv ⊢
    have HV := Lib.hid hv
    clear hv e
    go_enter Tryz.func84, Tryz.ntmps84
    go_wp2_with fail
    refine (HV.out _ (by (repeat first | assumption | exact Frame.refl _ _ | refine Frame.trans1 ?_ (Frame.alloc _ _ _) | refine Frame.trans1 ?_ (Frame.drew _ _) | refine Frame.trans1 ?_ (Frame.drewN _ _ _)))).mono ?_
    rintro e w5 ⟨rfl, s5⟩
    have S5 := Lib.hid (StEnd.behind (Frame.alloc [] w (.cells #[.int .i64 4, .int .i64 (a : Int), .int .i64 (b : Int)] 112)) s5)
    clear s5 HV
    by_cases hq : q2 = 0
    · subst hq
      go_wp2_with fail
      refine (must_ok _ _).mono ?_
      rintro e w6 ⟨rfl, rfl⟩
      go_wp2_with fail
      go_ret
      exact ⟨fun _ => ⟨rfl, S5.out⟩, fun h => absurd rfl h⟩
    · have HQ := Lib.hid hq
      clear hq
      go_wp2_with fail
      refine (must_bad _ _ _ HQ.out).mono ?_
      rintro e w6 ⟨chain, rfl, b6, f6⟩
      obtain ⟨F', s1, s2, s3⟩ := S5.out
      obtain ⟨nb, n1, n2, n3⟩ := b6
      exact ⟨rfl, fun h => absurd h HQ.out, fun _ => ⟨chain, rfl, ⟨nb, n1, Nat.le_trans s2.size n2, n3⟩, s2.trans0 f6⟩⟩
  by_cases k5 : gk = 5
  · subst k5
    obtain ⟨a, b, rfl, rfl, hma, hmb⟩ := h2 (.inr rfl)
    have la := M.out.look hma _ (Frame.alloc [] w (.cells #[.int .i64 5, .int .i64 a, .int .i64 b] 112))
    have lb := M.out.look hmb _ (Frame.alloc [] w (.cells #[.int .i64 5, .int .i64 a, .int .i64 b] 112))
    have e : againV dead bm ⟨5, (a : Int), (b : Int)⟩ l left = mkTimes (bm a) (bm b) l left := by simp [againV]
    rw [e]
    have hv : ∀ w1 (f : Frame [] w w1), _ := fun w1 f => times_any qb Q l left (bm a) (bm b) w1 (H.out.frame0 f) h0
    generalize mkTimes (bm a) (bm b) l left = q at *
    obtain ⟨⟨q1, q2⟩, ql, qf⟩ := q
    simp only at hv ⊢
    have HV := Lib.hid hv
    clear hv e
    go_enter Tryz.func84, Tryz.ntmps84
    go_wp2_with fail
    refine (HV.out _ (by (repeat first | assumption | exact Frame.refl _ _ | refine Frame.trans1 ?_ (Frame.alloc _ _ _) | refine Frame.trans1 ?_ (Frame.drew _ _) | refine Frame.trans1 ?_ (Frame.drewN _ _ _)))).mono ?_
    rintro e w5 ⟨rfl, s5⟩
    have S5 := Lib.hid (StEnd.behind (Frame.alloc [] w (.cells #[.int .i64 5, .int .i64 (a : Int), .int .i64 (b : Int)] 112)) s5)
    clear s5 HV
    by_cases hq : q2 = 0
    · subst hq
      go_wp2_with fail
      refine (must_ok _ _).mono ?_
      rintro e w6 ⟨rfl, rfl⟩
      go_wp2_with fail
      go_ret
      exact ⟨fun _ => ⟨rfl, S5.out⟩, fun h => absurd rfl h⟩
    · have HQ := Lib.hid hq
      clear hq
      go_wp2_with fail
      refine (must_bad _ _ _ HQ.out).mono ?_
      rintro e w6 ⟨chain, rfl, b6, f6⟩
      obtain ⟨F', s1, s2, s3⟩ := S5.out
      obtain ⟨nb, n1, n2, n3⟩ := b6
      exact ⟨rfl, fun h => absurd h HQ.out, fun _ => ⟨chain, rfl, ⟨nb, n1, Nat.le_trans s2.size n2, n3⟩, s2.trans0 f6⟩⟩
  by_cases k6 : gk = 6
  · subst k6
    obtain ⟨a, rfl, hma⟩ := h1 rfl
    have la := M.out.look hma _ (Frame.alloc [] w (.cells #[.int .i64 6, .int .i64 a, .int .i64 gb] 112))
    have e : againV dead bm ⟨6, (a : Int), gb⟩ l left = mkStar (bm a) l left := by simp [againV]
    rw [e]
    have hv : ∀ w1 (f : Frame [] w w1), _ := fun w1 f => star_any qb Q l left (bm a) w1 (H.out.frame0 f) h0
    generalize mkStar (bm a) l left = q at *
    obtain ⟨⟨q1, q2⟩, ql, qf⟩ := q
    simp only at hv ⊢
    have HV := Lib.hid hv
    clear hv e
    go_enter Tryz.func84, Tryz.ntmps84
    go_wp2_with fail
    refine (HV.out _ (by (repeat first | assumption | exact Frame.refl _ _ | refine Frame.trans1 ?_ (Frame.alloc _ _ _) | refine Frame.trans1 ?_ (Frame.drew _ _) | refine Frame.trans1 ?_ (Frame.drewN _ _ _)))).mono ?_
    rintro e w5 ⟨rfl, s5⟩
    have S5 := Lib.hid (StEnd.behind (Frame.alloc [] w (.cells #[.int .i64 6, .int .i64 (a : Int), .int .i64 gb] 112)) s5)
    clear s5 HV
    by_cases hq : q2 = 0
    · subst hq
      go_wp2_with fail
      refine (must_ok _ _).mono ?_
      rintro e w6 ⟨rfl, rfl⟩
      go_wp2_with fail
      go_ret
      exact ⟨fun _ => ⟨rfl, S5.out⟩, fun h => absurd rfl h⟩
    · have HQ := Lib.hid hq
      clear hq
      go_wp2_with fail
      refine (must_bad _ _ _ HQ.out).mono ?_
      rintro e w6 ⟨chain, rfl, b6, f6⟩
      obtain ⟨F', s1, s2, s3⟩ := S5.out
      obtain ⟨nb, n1, n2, n3⟩ := b6
      exact ⟨rfl, fun h => absurd h HQ.out, fun _ => ⟨chain, rfl, ⟨nb, n1, Nat.le_trans s2.size n2, n3⟩, s2.trans0 f6⟩⟩
  · have e : againV dead bm ⟨gk, ga, gb⟩ l left = ((0, 0), l, left) := by simp [againV, k2, k3b, k4, k5, k6]
    rw [e]
    have b2 : (gk == 2) = false := by simp [k2]
    have b3 : (gk == 3) = false := by simp [k3b]
    have b4 : (gk == 4) = false := by simp [k4]
    have b5 : (gk == 5) = false := by simp [k5]
    have b6 : (gk == 6) = false := by simp [k6]
    clear e k2 k3 k3b k4 k5 k6
    go_enter Tryz.func84, Tryz.ntmps84
    go_wp2_with fail
    go_ret
    exact ⟨fun _ => ⟨rfl, SF.out _ (Frame.alloc [] _ _)⟩, fun h => absurd rfl h⟩
end Go.Proofs.YtbnhhmejlglbcaaGreat

namespace Go.Proofs.YtbnhhmejlglbcaaGreat
open Go.RowKit
set_option linter.unusedSimpArgs false
set_option linter.unusedVariables false

/-- The circuit is made again, or the budget is used up. -/
def Restr1End (fin : CutSt) (qb : Nat) (Q : List Nat) (mb : Nat) (ks : List Nat) (w : World) (e : Ending) (w' : World) : Prop :=
  (fin.e = 0 → e = .returned (.tuple #[]) ∧ ∃ Q', St w' qb Q' fin.l fin.left ∧ Grow Q Q' w ∧ IMap fin.bm w' mb ks ∧ Frame (mb :: Q) w w') ∧
  (fin.e ≠ 0 → ∃ chain at_, e = .panicked chain ∧ bailing w fin.e at_ chain w' ∧ Frame (mb :: Q) w w')
theorem cutV_stop {dead : Int → Bool} {l : List Gt} {ks : List Nat} {left : Int} {t : Nat} (h : (cutV dead l (ks.take t) left).e ≠ 0) : cutV dead l ks left = cutV dead l (ks.take t) left := by
  have e : cutV dead l ks left = (ks.drop t).foldl (cutStep dead l) (cutV dead l (ks.take t) left) := by
    unfold cutV; rw [← List.foldl_append, List.take_append_drop]
  rw [e, cutFold_err h]
/-- The boxes of the closure. -/
structure Bxs (c0 c1 c2 c3 c4 : Nat) (pb root qb mb : Nat) (tv : Value) (w : World) : Prop where
  k0 : Blk w c0 26 #[.pointer (some ⟨pb, 0, none⟩)]
  k1 : Blk w c1 3 #[.int .i64 root]
  k2 : Blk w c2 26 #[.pointer (some ⟨qb, 0, none⟩)]
  k3 : Blk w c3 131 #[.map (some mb)]
  k4 : Blk w c4 50 #[tv]
theorem Bxs.frame {c0 c1 c2 c3 c4 : Nat} {pb root qb mb : Nat} {tv : Value} {w w' : World} {S : List Nat} (h : Bxs c0 c1 c2 c3 c4 pb root qb mb tv w) (f : Frame S w w') (hS : c0 ∉ S ∧ c1 ∉ S ∧ c2 ∉ S ∧ c3 ∉ S ∧ c4 ∉ S) : Bxs c0 c1 c2 c3 c4 pb root qb mb tv w' :=
  ⟨h.k0.frame f hS.1, h.k1.frame f hS.2.1, h.k2.frame f hS.2.2.1, h.k3.frame f hS.2.2.2.1, h.k4.frame f hS.2.2.2.2⟩
theorem rdI_frameS {w w' : World} {S : List Nat} {a : Option Addr} {xs : List Int} (h : RdI w a xs) (f : Frame S w w') (hS : xs ≠ [] → RdI.Apart a S) : RdI w' a xs := by
  by_cases hx : xs = []
  · exact .inl hx
  · exact h.frameS f (hS hx)
theorem put_len {g : Gt} {l : List Gt} {left : Int} : l.length ≤ (put g l left).2.1.length := by
  unfold put
  repeat' split
  all_goals simp
theorem againV_len {dead : Int → Bool} {bm : Nat → Int} {g : Gt} {l : List Gt} {left : Int} : l.length ≤ (againV dead bm g l left).2.1.length := by
  unfold againV mkVar mkPlus mkTimes mkStar
  repeat' split
  all_goals first | exact Nat.le_refl _ | exact put_len
theorem cutV_len (dead : Int → Bool) (l : List Gt) (left : Int) : ∀ ks : List Nat, 2 ≤ (cutV dead l ks left).l.length := by
  have : ∀ (ks : List Nat) (s : CutSt), 2 ≤ s.l.length → 2 ≤ (ks.foldl (cutStep dead l) s).l.length := by
    intro ks
    induction ks with
    | nil => intro s h; exact h
    | cons k ks ih =>
      intro s h
      rw [List.foldl_cons]
      refine ih _ ?_
      unfold cutStep
      split
      · exact h
      · split
        · exact h
        · exact Nat.le_trans h againV_len
  exact fun ks => this ks _ (by simp [init])

set_option maxHeartbeats 4000000 in
set_option maxRecDepth 100000 in
theorem restrict1_any (c0 c1 c2 c3 c4 : Nat) (pb : Nat) (F : List Nat) (l : List Gt) (left : Int) (hI : Inv l) (root : Nat) (hr : root < l.length) (hlen : l.length ≤ 100000)
    (qb : Nat) (Q : List Nat) (left0 : Int) (mb : Nat) (ta : Option Addr) (tc : Nat) (ts : List Int) (htl : ts.length ≤ 1000000) (dead : Int → Bool) (hdead : ∀ t, dead t = true ↔ t ∈ ts) (w : World)
    (h : St w pb F l left) (hq : St w qb Q init left0) (hm : IMap (fun _ => 0) w mb []) (ht : RdI w ta ts) (hb : Bxs c0 c1 c2 c3 c4 pb root qb mb (.slice ta ts.length tc) w)
    (dc : c0 ∉ mb :: Q ∧ c1 ∉ mb :: Q ∧ c2 ∉ mb :: Q ∧ c3 ∉ mb :: Q ∧ c4 ∉ mb :: Q) (dF : ∀ x ∈ F, x ∉ mb :: Q) (dm : mb ∉ Q) (dt : ts ≠ [] → RdI.Apart ta (mb :: Q)) :
    Calls Tryz.prog 83 #[.pointer (some ⟨c0, 0, none⟩), .pointer (some ⟨c1, 0, none⟩), .pointer (some ⟨c2, 0, none⟩), .pointer (some ⟨c3, 0, none⟩), .pointer (some ⟨c4, 0, none⟩)] w (Restr1End (cutV dead l (reach l root) left0) qb Q mb (reach l root) w) := by
  have hre := reach_any pb F l left root w h hI hr (by omega)
  have hRC := reach_closed hI hr
  have hkb : (reach l root).length ≤ 1000000 := by have := reach_len l root; omega
  generalize reach l root = ks at *
  have RE := Lib.hid hre
  have HC := Lib.hid hRC
  have H := Lib.hid h
  have HQ := Lib.hid hq
  have HM := Lib.hid hm
  have HT := Lib.hid ht
  have HB := Lib.hid hb
  have D := Lib.hid (And.intro dc (And.intro dF (And.intro dm (And.intro dt hdead))))
  have x0 := hb.k0.at 0 rfl
  have x1 := hb.k1.at 0 rfl
  clear hre hRC h hq hm ht hb dc dF dm dt hdead
  go_enter Tryz.func83, Tryz.ntmps83
  go_wp2_with fail
  refine RE.out.mono ?_
  rintro e w1 ⟨v, G, rfl, s1, f1, hG1⟩
  obtain ⟨va, vcap, hv⟩ := s1.form
  subst hv
  rw [List.length_map] at s1 ⊢
  have S1 := Lib.hid (And.intro s1 (And.intro f1 hG1))
  clear s1 f1 hG1 RE x0 x1
  go_wp2_with fail
  go_loopw [6, 7, 8, 13] (fun _ _ _ i wr => ∃ t : Nat, t ≤ ks.length ∧ i = .int .i64 t ∧ Hid ((cutV dead l (ks.take t) left0).e = 0 ∧ Frame (mb :: Q) w wr ∧ Frame (mb :: Q) w1 wr ∧ ∃ Q', St wr qb Q' (cutV dead l (ks.take t) left0).l (cutV dead l (ks.take t) left0).left ∧ Grow Q Q' w1 ∧ IMap (cutV dead l (ks.take t) left0).bm wr mb (ks.take t))) (fun _ _ _ i _ => (ks.length - intOf i).toNat)
  case atStart => exact ⟨0, Nat.zero_le _, rfl, Lib.hid ⟨rfl, S1.out.2.1.mono (by simp), Frame.refl _ _, Q, HQ.out.frame0 S1.out.2.1, fun x hx => .inl hx, HM.out.frame S1.out.2.1 (by simp)⟩⟩
  case round =>
    rename World => wr
    obtain ⟨t, ht, rfl, hR⟩ := hrel
    by_cases hlt : t < ks.length
    · have hj : ks[t]? = some ks[t] := by simp [hlt]
      have hkm : ks[t] ∈ ks := List.getElem_mem hlt
      generalize ks[t] = k at *
      have hkl := HC.out.lt k hkm
      have hg : l[k]? = some l[k] := by simp [hkl]
      generalize l[k] = g at *
      obtain ⟨he0, fw, fw1, Q', sq, gq, im⟩ := hR.out
      have hnx := cutV_next (dead := dead) (l := l) (left := left0) hj
      rw [cutStep_at he0 hg] at hnx
      have hsl := cutV_len dead l left0 (ks.take t)
      have hfin : (cutV dead l (ks.take (t + 1)) left0).e ≠ 0 → cutV dead l ks left0 = cutV dead l (ks.take (t + 1)) left0 := cutV_stop
      have hc2 := HC.out.two t k g hj hg
      have hc1 := HC.out.one t k g hj hg
      have hkt := take_one hj
      have hkn := mem_take_nodup HC.out.nodup hj
      generalize cutV dead l (ks.take t) left0 = s at *
      obtain ⟨bm, sl, sf, se⟩ := s
      simp only at he0 sq im hnx hsl
      subst he0
      obtain ⟨b9, cap9, hq, -, hbl, hc⟩ := (S1.out.1.frame fw1 (fun x hx hm => by
        have h1 := S1.out.2.2 x hx
        rcases List.mem_cons.mp hm with e | e
        · have := HM.out.lt; omega
        · have := HQ.out.lt x e; omega)).cell encI_len (k := t) (x := (k : Int)) (by simp [hj])
      simp only [Value.slice.injEq, List.length_map] at hq
      obtain ⟨rfl, -, rfl⟩ := hq
      have r0 := hc 0 _ rfl
      simp only [Nat.mul_one, Nat.add_zero] at r0
      have GA := Lib.hid (gate_get_any pb F l left k g wr (H.out.frame fw (fun x hx => D.out.2.1 x hx)) hg)
      have bx := HB.out.frame fw D.out.1
      have x0 := bx.k0.at 0 rfl
      have R := Lib.hid (And.intro fw (And.intro fw1 (And.intro sq (And.intro gq (And.intro im bx)))))
      have PU := Lib.hid (And.intro hfin (And.intro hkt (And.intro hkn hnx)))
      have KC := Lib.hid (And.intro hc2 hc1)
      have rdt := Lib.hid (rdI_frameS HT.out fw D.out.2.2.2.1)
      clear hj hkm hkl hg hc hc2 hc1 hkt hkn hfin hnx fw fw1 sq gq im bx hR
      obtain ⟨gk, ga, gb⟩ := g
      simp only at KC
      go_wp2_with fail
      refine GA.out.mono ?_
      rintro e w6 ⟨rfl, f6⟩
      clear r0 x0 GA
      have f7 : Frame [] wr (w6.alloc (.cells #[.int .i64 gk, .int .i64 ga, .int .i64 gb] 112)) := f6.trans1 (Frame.alloc _ _ _)
      have bg := Blk.new w6 112 #[.int .i64 gk, .int .i64 ga, .int .i64 gb]
      go_upto_region 4 with fail
      have hwg : wr.heap.size ≤ w6.heap.size := f6.size
      generalize w6.alloc (.cells #[.int .i64 gk, .int .i64 ga, .int .i64 gb] 112) = w7 at *
      generalize w6.heap.size = cg at *
      have nQ : Hid ((c0 ∉ mb :: Q' ∧ c1 ∉ mb :: Q' ∧ c2 ∉ mb :: Q' ∧ c3 ∉ mb :: Q' ∧ c4 ∉ mb :: Q') ∧ mb ∉ Q' ∧ cg ∉ mb :: Q') := by
        have nn : ∀ c, c ∉ mb :: Q → c < w.heap.size → c ∉ mb :: Q' := by
          intro c h1 h2 hm
          rcases List.mem_cons.mp hm with e | e
          · exact h1 (by simp [e])
          · rcases R.out.2.2.2.1 c e with h3 | h3
            · exact h1 (by simp [h3])
            · have := S1.out.2.1.size; omega
        refine ⟨⟨nn _ D.out.1.1 HB.out.k0.lt, nn _ D.out.1.2.1 HB.out.k1.lt, nn _ D.out.1.2.2.1 HB.out.k2.lt, nn _ D.out.1.2.2.2.1 HB.out.k3.lt, nn _ D.out.1.2.2.2.2 HB.out.k4.lt⟩, ?_, ?_⟩
        · intro hm
          rcases R.out.2.2.2.1 mb hm with h3 | h3
          · exact D.out.2.2.1 h3
          · have := HM.out.lt; have := S1.out.2.1.size; omega
        · intro hm
          rcases List.mem_cons.mp hm with e | e
          · have := R.out.2.2.2.2.1.lt; omega
          · have := R.out.2.2.1.lt cg e; omega
      have bx7 := R.out.2.2.2.2.2.frame f7 (by simp)
      have M2 : ∀ w', Frame (mb :: Q') w7 w' → w'.cell? ⟨c2, 0, none⟩ = some (.pointer (some ⟨qb, 0, none⟩)) := fun w' q => (bx7.k2.frame q nQ.out.1.2.2.1).at 0 rfl
      have M3 : ∀ w', Frame (mb :: Q') w7 w' → w'.cell? ⟨c3, 0, none⟩ = some (.map (some mb)) := fun w' q => (bx7.k3.frame q nQ.out.1.2.2.2.1).at 0 rfl
      have M4 : ∀ w', Frame (mb :: Q') w7 w' → w'.cell? ⟨c4, 0, none⟩ = some (.slice ta ts.length tc) := fun w' q => (bx7.k4.frame q nQ.out.1.2.2.2.2).at 0 rfl
      have G0 : ∀ w', Frame (mb :: Q') w7 w' → w'.cell? ⟨cg, 0, none⟩ = some (.int .i64 gk) := fun w' q => (bg.frame q nQ.out.2.2).at 0 rfl
      have G1 : ∀ w', Frame (mb :: Q') w7 w' → w'.cell? ⟨cg, 1, none⟩ = some (.int .i64 ga) := fun w' q => (bg.frame q nQ.out.2.2).at 1 rfl
      have G2 : ∀ w', Frame (mb :: Q') w7 w' → w'.cell? ⟨cg, 2, none⟩ = some (.int .i64 gb) := fun w' q => (bg.frame q nQ.out.2.2).at 2 rfl
      have AG := Lib.hid (fun w' (q : Frame [] w7 w') => again_any qb Q' sl sf bm mb (ks.take t) ⟨gk, ga, gb⟩ ta tc ts dead w' (R.out.2.2.1.frame0 (f7.trans1 q)) (by omega) (R.out.2.2.2.2.1.frame (f7.trans1 q) (by simp)) (rdt.out.frame (f7.trans1 q)) htl D.out.2.2.2.2 KC.out.1 KC.out.2)
      have F7 := Lib.hid f7
      clear f7 f6 bg bx7 rdt KC
      generalize againV dead bm ⟨gk, ga, gb⟩ sl sf = r at *
      obtain ⟨⟨q1, q2⟩, ql, qf⟩ := r
      simp only at PU AG
      as_aux_lemma =>
        refine wp_region_held_drew (S := fun w' => Frame (mb :: Q') w7 w') (by kernel_rfl) (Frame.drew _ _) ?_
        intro hS
        refine wpAnyH_take (i := 0) (oi := ⟨some 23, _, _, _, _, _⟩) (v := ?_) rfl (by kernel_rfl) (by kernel_rfl) (by kernel_rfl) (fun _ _ _ h => h) (Or.inl ⟨by rfl, ?_⟩) hS ?_
        rotate_left
        · intro w hSw
          have hm := M3 w hSw
          go_simp <;> with_reducible rfl
        try simp only [Act.put, List.setIfInBounds_toArray, List.set_cons_zero, List.set_cons_succ]
        refine wpAnyH_take (i := 1) (oi := ⟨some 24, _, _, _, _, _⟩) (v := ?_) rfl (by kernel_rfl) (by kernel_rfl) (by kernel_rfl) (fun _ _ _ h => h) (Or.inl ⟨by rfl, ?_⟩) hS ?_
        rotate_left
        · intro w hSw
          go_simp <;> with_reducible rfl
        try simp only [Act.put, List.setIfInBounds_toArray, List.set_cons_zero, List.set_cons_succ]
        refine wpAnyH_take (i := 2) (oi := ⟨some 25, _, _, _, _, _⟩) (v := ?_) rfl (by kernel_rfl) (by kernel_rfl) (by kernel_rfl) (fun _ _ _ h => h) (Or.inl ⟨by rfl, ?_⟩) hS ?_
        rotate_left
        · intro w hSw
          have hm := M2 w hSw
          go_simp <;> with_reducible rfl
        try simp only [Act.put, List.setIfInBounds_toArray, List.set_cons_zero, List.set_cons_succ]
        refine wpAnyH_take (i := 3) (oi := ⟨some 26, _, _, _, _, _⟩) (v := ?_) rfl (by kernel_rfl) (by kernel_rfl) (by kernel_rfl) (fun _ _ _ h => h) (Or.inl ⟨by rfl, ?_⟩) hS ?_
        rotate_left
        · intro w hSw
          have hm0 := G0 w hSw
          have hm1 := G1 w hSw
          have hm2 := G2 w hSw
          go_simp <;> with_reducible rfl
        try simp only [Act.put, List.setIfInBounds_toArray, List.set_cons_zero, List.set_cons_succ]
        refine wpAnyH_take (i := 4) (oi := ⟨some 27, _, _, _, _, _⟩) (v := ?_) rfl (by kernel_rfl) (by kernel_rfl) (by kernel_rfl) (fun _ _ _ h => h) (Or.inl ⟨by rfl, ?_⟩) hS ?_
        rotate_left
        · intro w hSw
          have hm := M3 w hSw
          go_simp <;> with_reducible rfl
        try simp only [Act.put, List.setIfInBounds_toArray, List.set_cons_zero, List.set_cons_succ]
        refine wpAnyH_take (i := 5) (oi := ⟨some 28, _, _, _, _, _⟩) (v := ?_) rfl (by kernel_rfl) (by kernel_rfl) (by kernel_rfl) (fun _ _ _ h => h) (Or.inl ⟨by rfl, ?_⟩) hS ?_
        rotate_left
        · intro w hSw
          have hm := M4 w hSw
          go_simp <;> with_reducible rfl
        try simp only [Act.put, List.setIfInBounds_toArray, List.set_cons_zero, List.set_cons_succ]
        as_aux_lemma =>
          refine wpAnyH_ready (rs := [6]) (by kernel_rfl) (by simp) ?_
          refine AllReadyH.cons (o := ⟨some 29, _, _, _, _, _⟩) rfl (fun K hK => ?_) AllReadyH.nil
          go_simp
          refine (AG.out _ (by (repeat first | assumption | exact Frame.refl _ _ | refine Frame.trans1 ?_ (Frame.alloc _ _ _) | refine Frame.trans1 ?_ (Frame.drew _ _) | refine Frame.trans1 ?_ (Frame.drewN _ _ _)))).mono ?_
          rintro e w9 hag
          by_cases hz : q2 = 0
          · subst hz
            obtain ⟨rfl, Q9, s9, f9, g9⟩ := hag.1 rfl
            have f79 : Frame Q' w7 w9 := (show Frame Q' w7 _ from by (repeat first | assumption | exact Frame.refl _ _ | refine Frame.trans1 ?_ (Frame.alloc _ _ _) | refine Frame.trans1 ?_ (Frame.drew _ _) | refine Frame.trans1 ?_ (Frame.drewN _ _ _))).trans1 f9
            have FF : Frame (mb :: Q') w7 w9 := f79.mono (fun x hx => .inl (by simp [hx]))
            have g79 : Grow Q' Q9 w7 := fun x hx => by
              rcases g9 x hx with h | h
              · exact .inl h
              · exact .inr (Nat.le_trans (show Frame [] w7 _ from by (repeat first | assumption | exact Frame.refl _ _ | refine Frame.trans1 ?_ (Frame.alloc _ _ _) | refine Frame.trans1 ?_ (Frame.drew _ _) | refine Frame.trans1 ?_ (Frame.drewN _ _ _))).size h)
            have im9 : IMap bm w9 mb (ks.take t) := (R.out.2.2.2.2.1.frame F7.out (by simp)).frame f79 nQ.out.2.1
            obtain ⟨wm, hup, im10, fm⟩ := im9.put PU.out.2.2.1 q1
            have E := Lib.hid (And.intro s9 (And.intro f79 (And.intro g79 (And.intro im10 fm))))
            have hmQ9 : Hid (∀ x ∈ Q9, x ≠ mb) := by
              intro x hx e
              subst e
              rcases g79 x hx with h | h
              · exact nQ.out.2.1 h
              · have := (R.out.2.2.2.2.1.frame F7.out (by simp)).lt; omega
            clear s9 f9 g9 f79 g79 im9 im10 hag AG M2 M4 G0 G1 G2
            refine hK.out _ _ FF (fun hS => ?_)
            clear hK K
            try simp only [Act.put, List.setIfInBounds_toArray, List.set_cons_zero, List.set_cons_succ]
            as_aux_lemma =>
              refine wpAnyH_ready (rs := [7]) (by kernel_rfl) (by simp) ?_
              refine AllReadyH.cons (o := ⟨none, _, _, _, _, _⟩) rfl (fun K hK => ?_) AllReadyH.nil
              go_simp
              refine hK.out _ _ (FF.trans1 (fm.mono (by simp))) (fun hS => ?_)
              clear hK K hup fm FF M3 hS
              refine wpAnyH_done (by kernel_rfl) ?_ _
              as_aux_lemma =>
                have hgw1 := R.out.2.1.size
                have hgw7 := F7.out.size
                have hs1 := S1.out.2.1.size
                have fw' : Frame (mb :: Q) w wm := ((R.out.1.trans0 F7.out).trans E.out.2.1 (fun x hx => by
                  rcases R.out.2.2.2.1 x hx with h | h
                  · exact .inl (by simp [h])
                  · exact .inr (by omega))).trans E.out.2.2.2.2 (fun x hx => .inl (by simp at hx; simp [hx]))
                have fw1' : Frame (mb :: Q) w1 wm := ((R.out.2.1.trans0 F7.out).trans E.out.2.1 (fun x hx => by
                  rcases R.out.2.2.2.1 x hx with h | h
                  · exact .inl (by simp [h])
                  · exact .inr (by omega))).trans E.out.2.2.2.2 (fun x hx => .inl (by simp at hx; simp [hx]))
                have gw' : Grow Q Q9 w1 := fun x hx => by
                  rcases E.out.2.2.1 x hx with h | h
                  · exact R.out.2.2.2.1 x h
                  · exact .inr (by omega)
                have st' := E.out.1.frame E.out.2.2.2.2 (fun x hx => by simpa using hmQ9.out x hx)
                have Z := Lib.hid (And.intro fw' (And.intro fw1' (And.intro gw' (And.intro st' E.out.2.2.2.1))))
                clear fw' fw1' gw' st'
                go_wp2_with fail
                go_roundw
                case rel => exact ⟨t + 1, by omega, by first | rfl | go_num, Lib.hid ⟨by rw [PU.out.2.2.2], Z.out.1, Z.out.2.1, Q9, by rw [PU.out.2.2.2]; exact Z.out.2.2.2.1, Z.out.2.2.1, by rw [PU.out.2.2.2, PU.out.2.1]; exact Z.out.2.2.2.2⟩⟩
                case measure => first | (simp [intOf]; done) | (simp [intOf]; omega)
          · obtain ⟨chain, rfl, ⟨nb, n1, n2, n3⟩, f9⟩ := hag.2 hz
            have hnb : w7.heap.size ≤ nb := Nat.le_trans (show Frame [] w7 _ from by (repeat first | assumption | exact Frame.refl _ _ | refine Frame.trans1 ?_ (Frame.alloc _ _ _) | refine Frame.trans1 ?_ (Frame.drew _ _) | refine Frame.trans1 ?_ (Frame.drewN _ _ _))).size n2
            have f79 : Frame Q' w7 w9 := (show Frame Q' w7 _ from by (repeat first | assumption | exact Frame.refl _ _ | refine Frame.trans1 ?_ (Frame.alloc _ _ _) | refine Frame.trans1 ?_ (Frame.drew _ _) | refine Frame.trans1 ?_ (Frame.drewN _ _ _))).trans1 f9
            have hgw := R.out.1.size
            have hgw7 := F7.out.size
            have hs1 := S1.out.2.1.size
            have hfe : cutV dead l ks left0 = _ := PU.out.1 (by rw [PU.out.2.2.2]; exact hz)
            rw [PU.out.2.2.2] at hfe
            refine ⟨rfl, ?_⟩
            show Restr1End _ _ _ _ _ _ _ _
            rw [hfe]
            exact ⟨fun h => absurd h hz, fun _ => ⟨chain, q1, rfl, ⟨nb, n1, by omega, n3⟩, (R.out.1.trans0 F7.out).trans f79 (fun x hx => by
              rcases R.out.2.2.2.1 x hx with h | h
              · exact .inl (by simp [h])
              · exact .inr (by omega))⟩⟩
    · obtain rfl : t = ks.length := by omega
      obtain ⟨he0, fw, fw1, Q', sq, gq, im⟩ := hR.out
      rw [List.take_length] at he0 sq im
      have hs1 := S1.out.2.1.size
      have E := Lib.hid (And.intro he0 (And.intro sq (And.intro (show Grow Q Q' w from fun x hx => by rcases gq x hx with h | h; exact .inl h; exact .inr (by omega)) (And.intro im fw))))
      clear he0 fw fw1 sq gq im hR
      go_wp2_with fail
      go_end0
      exact ⟨fun _ => ⟨rfl, Q', E.out.2.1, E.out.2.2.1, E.out.2.2.2.1, E.out.2.2.2.2⟩, fun h => absurd E.out.1 h⟩
end Go.Proofs.YtbnhhmejlglbcaaGreat

