/- A map from numbers to numbers; circuits cut: pure. cut.must, cut.again. (printed by gen_again.py) -/
import Derived.Test.YtoidafgeckhkcaaGreatMt12
import Derived.Test.YtoidafgeckhkcaaGreatMt24
import Derived.Test.YtoidafgeckhkcaaGreatMt25
import Derived.Test.YtoidafgeckhkcaaGreatMt06
import Derived.Test.YtoidafgeckhkcaaGreatMt02
namespace Go.Proofs.YtoidafgeckhkcaaGreat
open Go.RowKit
set_option linter.unusedSimpArgs false
set_option linter.unusedVariables false

theorem lookup_ii (w : World) (mb : Nat) (l : List (Int × Value)) (clock : Nat) (k : Int) (p : Nat) (v : Value) (h : MBlk w mb (entI l).toArray clock) (hf : findI k l 0 = some (p, v)) :
    (Instr.lookup 83 (.map (some mb)) (.int .i64 k) false).run Tryz.prog w = .ok v w := by
  have h2 := findNow_int .i64 k l 0
  rw [hf] at h2
  have hg : (getObj mb).run Tryz.prog w = .ok (.map (entI l).toArray clock) w := by unfold MBlk at h; simp [getObj, Sem.run, h]
  have hc : ∀ e, (Instr.checkKey e 10000 3 (.int .i64 k)).run Tryz.prog w = .ok () w := fun e => checkKey_int e 9999 k w
  have hk : (Instr.findKey 3 (.int .i64 k) (entI l)).run Tryz.prog w = .ok (some (p, v)) w := by
    simp only [Instr.findKey, entI, go_sem]
    simp [h2, go_sem]
  simp [Instr.lookup, go_sem, hg, hc, hk]
theorem update_ii (w : World) (mb : Nat) (l : List (Int × Value)) (k : Int) (v : Value) (h : MBlk w mb (entI l).toArray l.length) (hf : findI k l 0 = none) :
    (Instr.mapUpdate 83 (.map (some mb)) (.int .i64 k) v).run Tryz.prog w = .ok () (setMap w mb (entI (l ++ [(k, v)])).toArray (l.length + 1)) := by
  have h2 := findNow_int .i64 k l 0
  rw [hf] at h2
  have hg : (getObj mb).run Tryz.prog w = .ok (.map (entI l).toArray l.length) w := by unfold MBlk at h; simp [getObj, Sem.run, h]
  have hc : ∀ e, (Instr.checkKey e 10000 3 (.int .i64 k)).run Tryz.prog w = .ok () w := fun e => checkKey_int e 9999 k w
  have hk : (Instr.findKey 3 (.int .i64 k) (entI l)).run Tryz.prog w = .ok none w := by
    simp only [Instr.findKey, entI, go_sem]
    simp [h2, go_sem]
  have hs : ∀ o, (setObj mb o).run Tryz.prog w = .ok () { w with heap := w.heap.setIfInBounds mb o } := by intro o; unfold MBlk at h; simp [setObj, Sem.run, h]
  have he : (entI l).toArray.push { key := .int .i64 k, val := v, born := l.length } = (entI (l ++ [(k, v)])).toArray := by simp [entI, List.zipIdx_append]
  simp [Instr.mapUpdate, go_sem, hg, hc, hk, hs, ← he, setMap]
/-- A map of what gates became. -/
def IMap (bm : Nat → Int) (w : World) (mb : Nat) (ks : List Nat) : Prop :=
  ∃ es : List (Int × Value), MBlk w mb (entI es).toArray es.length ∧ es.map Prod.fst = ks.map (fun j : Nat => (j : Int)) ∧ ∀ k v, (k, v) ∈ es → ∃ j : Nat, k = j ∧ v = .int .i64 (bm j)
section
variable {bm : Nat → Int} {w w' : World} {mb : Nat} {ks : List Nat}
theorem IMap.new (bm : Nat → Int) (w : World) : IMap bm (w.alloc (.map #[] 0)) w.heap.size [] := ⟨[], MBlk.new _ _ _, rfl, by simp⟩
theorem IMap.lt (h : IMap bm w mb ks) : mb < w.heap.size := by obtain ⟨es, h1, _⟩ := h; exact h1.lt
theorem IMap.frame {S : List Nat} (h : IMap bm w mb ks) (f : Frame S w w') (hS : mb ∉ S) : IMap bm w' mb ks := by
  obtain ⟨es, h1, h2, h3⟩ := h
  exact ⟨es, h1.frame f hS, h2, h3⟩
theorem IMap.look (h : IMap bm w mb ks) {j : Nat} (hj : j ∈ ks) : ∀ w', Frame [] w w' → (Instr.lookup 83 (.map (some mb)) (.int .i64 j) false).run Tryz.prog w' = .ok (.int .i64 (bm j)) w' := by
  obtain ⟨es, h1, h2, h3⟩ := h
  obtain ⟨p, v, a, b⟩ := findI_some (k := (j : Int)) es 0 (by rw [h2]; exact List.mem_map_of_mem hj)
  obtain ⟨j', e, c⟩ := h3 _ _ b
  have : j' = j := by omega
  subst this c
  exact fun w' f => lookup_ii w' mb es _ _ p _ (h1.frame f (by simp)) a
theorem IMap.put (h : IMap bm w mb ks) {k : Nat} (hk : k ∉ ks) (x : Int) :
    ∃ w', (Instr.mapUpdate 83 (.map (some mb)) (.int .i64 k) (.int .i64 x)).run Tryz.prog w = .ok () w' ∧ IMap (fun j => if j = k then x else bm j) w' mb (ks ++ [k]) ∧ Frame [mb] w w' := by
  obtain ⟨es, h1, h2, h3⟩ := h
  have f : Frame [mb] w (setMap w mb (entI (es ++ [((k : Int), .int .i64 x)])).toArray (es.length + 1)) := Frame.setMap _ _ _ _ (by simp)
  refine ⟨_, update_ii w mb es k _ h1 (findI_none es 0 ?_), ⟨es ++ [((k : Int), .int .i64 x)], by simpa using h1.set (entI (es ++ [((k : Int), .int .i64 x)])).toArray (es.length + 1), by simp [h2], ?_⟩, f⟩
  · rw [h2]
    intro hm
    obtain ⟨j, hj, e⟩ := List.mem_map.mp hm
    have : j = k := by omega
    exact hk (this ▸ hj)
  · intro k' v' hm
    rw [List.mem_append] at hm
    rcases hm with hm | hm
    · obtain ⟨j, a, b⟩ := h3 k' v' hm
      have : j ≠ k := by
        rintro rfl
        have h4 : k' ∈ es.map Prod.fst := List.mem_map_of_mem (f := Prod.fst) hm
        rw [h2] at h4
        obtain ⟨i, hi, e⟩ := List.mem_map.mp h4
        have : i = j := by omega
        exact hk (this ▸ hi)
      exact ⟨j, a, by simp only; rw [if_neg this]; exact b⟩
    · simp at hm
      obtain ⟨rfl, rfl⟩ := hm
      exact ⟨k, rfl, by simp⟩
end
/-! ### cut: pure -/
/-- A gate, made again of what its parts became. -/
def againV (dead : Int → Bool) (bm : Nat → Int) (g : Gt) (l : List Gt) (left : Int) : (Int × Int) × List Gt × Int :=
  if g.k = 2 then ((1, 0), l, left) else if g.k = 3 then (if dead g.a = true then ((0, 0), l, left) else mkVar g.a l left)
  else if g.k = 4 then mkPlus (bm g.a.toNat) (bm g.b.toNat) l left else if g.k = 5 then mkTimes (bm g.a.toNat) (bm g.b.toNat) l left
  else if g.k = 6 then mkStar (bm g.a.toNat) l left else ((0, 0), l, left)
structure CutSt where
  bm : Nat → Int
  l : List Gt
  left : Int
  e : Int
def cutStep (dead : Int → Bool) (l : List Gt) (s : CutSt) (k : Nat) : CutSt :=
  if s.e ≠ 0 then s else match l[k]? with
  | none => s
  | some g => ⟨fun j => if j = k then (againV dead s.bm g s.l s.left).1.1 else s.bm j, (againV dead s.bm g s.l s.left).2.1, (againV dead s.bm g s.l s.left).2.2, (againV dead s.bm g s.l s.left).1.2⟩
def cutV (dead : Int → Bool) (l : List Gt) (ks : List Nat) (left : Int) : CutSt := ks.foldl (cutStep dead l) ⟨fun _ => 0, init, left, 0⟩
theorem cutV_next {dead : Int → Bool} {l : List Gt} {ks : List Nat} {left : Int} {t k : Nat} (h : ks[t]? = some k) : cutV dead l (ks.take (t + 1)) left = cutStep dead l (cutV dead l (ks.take t) left) k := by
  unfold cutV; rw [take_one h, List.foldl_append]; rfl
theorem cutStep_at {dead : Int → Bool} {l : List Gt} {s : CutSt} {k : Nat} {g : Gt} (he : s.e = 0) (hg : l[k]? = some g) : cutStep dead l s k = ⟨fun j => if j = k then (againV dead s.bm g s.l s.left).1.1 else s.bm j, (againV dead s.bm g s.l s.left).2.1, (againV dead s.bm g s.l s.left).2.2, (againV dead s.bm g s.l s.left).1.2⟩ := by
  unfold cutStep; rw [if_neg (by simp [he]), hg]
theorem cutStep_err {dead : Int → Bool} {l : List Gt} {s : CutSt} (he : s.e ≠ 0) (k : Nat) : cutStep dead l s k = s := by unfold cutStep; rw [if_pos he]
theorem cutFold_err {dead : Int → Bool} {l : List Gt} {s : CutSt} (he : s.e ≠ 0) : ∀ ks : List Nat, ks.foldl (cutStep dead l) s = s
  | [] => rfl
  | k :: ks => by rw [List.foldl_cons, cutStep_err he, cutFold_err he ks]
/-- An error stays. -/
theorem cutV_err {dead : Int → Bool} {l : List Gt} {ks : List Nat} {left : Int} (h : (cutV dead l ks left).e = 0) (t : Nat) : (cutV dead l (ks.take t) left).e = 0 := by
  apply Classical.byContradiction
  intro hn
  have e : cutV dead l ks left = (ks.drop t).foldl (cutStep dead l) (cutV dead l (ks.take t) left) := by
    unfold cutV; rw [← List.foldl_append, List.take_append_drop]
  rw [e, cutFold_err hn] at h
  exact hn h
end Go.Proofs.YtoidafgeckhkcaaGreat

namespace Go.Proofs.YtoidafgeckhkcaaGreat
open Go.RowKit
set_option linter.unusedSimpArgs false
set_option linter.unusedVariables false

theorem must_ok (k : Int) (w : World) : Calls Tryz.prog 67 #[.int .i64 k, .int .i64 0] w fun e w' => e = .returned (.int .i64 k) ∧ w' = w := by
  go_enter Tryz.func67, Tryz.ntmps67
  go_wp2_with fail
  go_ret
  exact ⟨rfl, rfl⟩
theorem must_bad (k c : Int) (w : World) (hc : c ≠ 0) : Calls Tryz.prog 67 #[.int .i64 k, .int .i64 c] w fun e w' => ∃ chain, e = .panicked chain ∧ bailing w c k chain w' ∧ Frame [] w w' := by
  have hb : (c != 0) = true := by simp [bne, hc]
  clear hc
  go_enter Tryz.func67, Tryz.ntmps67
  go_wp2_with fail
  refine (out_any c k w).mono ?_
  rintro e w1 ⟨chain, rfl, h1, h2⟩
  exact ⟨rfl, chain, rfl, h1, h2⟩
/-- Made again, or out of budget. -/
def AgainEnd (r : (Int × Int) × List Gt × Int) (qb : Nat) (Q : List Nat) (w : World) (e : Ending) (w' : World) : Prop :=
  (r.1.2 = 0 → e = .returned (.int .i64 r.1.1) ∧ StEnd w qb Q r.2.1 r.2.2 w') ∧ (r.1.2 ≠ 0 → ∃ chain, e = .panicked chain ∧ bailing w r.1.2 r.1.1 chain w' ∧ Frame Q w w')

set_option maxHeartbeats 4000000 in
set_option maxRecDepth 100000 in
theorem again_any (qb : Nat) (Q : List Nat) (l : List Gt) (left : Int) (bm : Nat → Int) (mb : Nat) (ks : List Nat) (g : Gt) (ta : Option Addr) (tc : Nat) (ts : List Int) (dead : Int → Bool) (w : World)
    (h : St w qb Q l left) (h0 : 0 < l.length) (hm : IMap bm w mb ks) (ht : RdI w ta ts) (htl : ts.length ≤ 1000000) (hdead : ∀ t, dead t = true ↔ t ∈ ts)
    (h2 : g.k = 4 ∨ g.k = 5 → ∃ a b : Nat, g.a = (a : Int) ∧ g.b = (b : Int) ∧ a ∈ ks ∧ b ∈ ks) (h1 : g.k = 6 → ∃ a : Nat, g.a = (a : Int) ∧ a ∈ ks) :
    Calls Tryz.prog 43 #[.pointer (some ⟨qb, 0, none⟩), .agg #[.int .i64 g.k, .int .i64 g.a, .int .i64 g.b], .map (some mb), .slice ta ts.length tc] w (AgainEnd (againV dead bm g l left) qb Q w) := by
  obtain ⟨gk, ga, gb⟩ := g
  simp only at h1 h2 ⊢
  have H := Lib.hid h
  have M := Lib.hid hm
  have CI := Lib.hid (conI ta tc ts ga (w.alloc (.cells #[.int .i64 gk, .int .i64 ga, .int .i64 gb] 80)) (ht.frame (Frame.alloc [] _ _)) htl (dead ga) (hdead ga))
  clear h hm ht hdead
  have SELF := Lib.hid (H.out.frame0 (Frame.alloc [] w (.cells #[.int .i64 gk, .int .i64 ga, .int .i64 gb] 80)))
  have self : ∀ w' (f : Frame [] w w'), StEnd w qb Q l left w' := fun w' f => StEnd.self H.out f
  have SF := Lib.hid self
  clear self SELF
  by_cases k2 : gk = 2
  · subst k2
    have e : againV dead bm ⟨2, ga, gb⟩ l left = ((1, 0), l, left) := by simp [againV]
    rw [e]
    clear e
    go_enter Tryz.func43, Tryz.ntmps43
    go_wp2_with fail
    go_ret
    exact ⟨fun _ => ⟨rfl, SF.out _ (Frame.alloc [] _ _)⟩, fun h => absurd rfl h⟩
  by_cases k3 : gk = 3 ∧ dead ga = true
  · obtain ⟨rfl, hd⟩ := k3
    have e : againV dead bm ⟨3, ga, gb⟩ l left = ((0, 0), l, left) := by simp [againV, hd]
    rw [e]
    rw [hd] at CI
    clear e hd
    go_enter Tryz.func43, Tryz.ntmps43
    go_wp2_with fail
    refine CI.out.mono ?_
    rintro e w5 ⟨rfl, f5⟩
    go_wp2_with fail
    go_ret
    exact ⟨fun _ => ⟨rfl, SF.out _ ((Frame.alloc [] _ _).trans1 f5)⟩, fun h => absurd rfl h⟩
  by_cases k3b : gk = 3
  · subst k3b
    have hd : dead ga = false := by cases hdd : dead ga with
      | true => exact absurd ⟨rfl, hdd⟩ k3
      | false => rfl
    have e : againV dead bm ⟨3, ga, gb⟩ l left = mkVar ga l left := by simp [againV, hd]
    rw [e]
    have hv : ∀ w1 (f : Frame [] w w1), _ := fun w1 f => var_any qb Q l left ga w1 (H.out.frame0 f) h0
    generalize mkVar ga l left = q at *
    obtain ⟨⟨q1, q2⟩, ql, qf⟩ := q
    simp only at hv ⊢
    have HV := Lib.hid hv
    rw [hd] at CI
    clear hv e hd k3
    go_enter Tryz.func43, Tryz.ntmps43
    go_wp2_with fail
    refine CI.out.mono ?_
    rintro e w4 ⟨rfl, f4⟩
    have g1 := ((Blk.new w 80 #[.int .i64 3, .int .i64 ga, .int .i64 gb]).frame f4 (by simp)).at 1 rfl
    have F4 := Lib.hid ((Frame.alloc [] w (.cells #[.int .i64 3, .int .i64 ga, .int .i64 gb] 80)).trans1 f4)
    clear f4
    go_wp2_with fail
    refine (HV.out _ F4.out).mono ?_
    rintro e w5 ⟨rfl, s5⟩
    have S5 := Lib.hid (StEnd.behind F4.out s5)
    clear s5 HV
    by_cases hq : q2 = 0
    · subst hq
      go_wp2_with fail
      refine (must_ok _ _).mono ?_
      rintro e w6 ⟨rfl, rfl⟩
      go_wp2_with fail
      go_ret
      exact ⟨fun _ => ⟨rfl, S5.out⟩, fun h => absurd rfl h⟩
    · have HQ := Lib.hid hq
      clear hq
      go_wp2_with fail
      refine (must_bad _ _ _ HQ.out).mono ?_
      rintro e w6 ⟨chain, rfl, b6, f6⟩
      obtain ⟨F', s1, s2, s3⟩ := S5.out
      obtain ⟨nb, n1, n2, n3⟩ := b6
      exact ⟨rfl, fun h => absurd h HQ.out, fun _ => ⟨chain, rfl, ⟨nb, n1, Nat.le_trans s2.size n2, n3⟩, s2.trans0 f6⟩⟩
  by_cases k4 : gk = 4
  · subst k4
    obtain ⟨a, b, rfl, rfl, hma, hmb⟩ := h2 (.inl rfl)
    have la := M.out.look hma _ (Frame.alloc [] w (.cells #[.int .i64 4, .int .i64 a, .int .i64 b] 80))
    have lb := M.out.look hmb _ (Frame.alloc [] w (.cells #[.int .i64 4, .int .i64 a, .int .i64 b] 80))
    have e : againV dead bm ⟨4, (a : Int), (b : Int)⟩ l left = mkPlus (bm a) (bm b) l left := by simp [againV]
    rw [e]
    have hv : ∀ w1 (f : Frame [] w w1), _ := fun w1 f => plus_any qb Q l left (bm a) (bm b) w1 (H.out.frame0 f) h0
    generalize mkPlus (bm a) (bm b) l left = q at *
    obtain ⟨⟨q1, q2⟩, ql, qf⟩ := q
    simp only at hv ⊢
    have HV := Lib.hid hv
    clear hv e
    go_enter Tryz.func43, Tryz.ntmps43
    go_wp2_with fail
    refine (HV.out _ (by (repeat first | assumption | exact Frame.refl _ _ | refine Frame.trans1 ?_ (Frame.alloc _ _ _) | refine Frame.trans1 ?_ (Frame.drew _ _) | refine Frame.trans1 ?_ (Frame.drewN _ _ _)))).mono ?_
    rintro e w5 ⟨rfl, s5⟩
    have S5 := Lib.hid (StEnd.behind (Frame.alloc [] w (.cells #[.int .i64 4, .int .i64 (a : Int), .int .i64 (b : Int)] 80)) s5)
    clear s5 HV
    by_cases hq : q2 = 0
    · subst hq
      go_wp2_with fail
      refine (must_ok _ _).mono ?_
      rintro e w6 ⟨rfl, rfl⟩
      go_wp2_with fail
      go_ret
      exact ⟨fun _ => ⟨rfl, S5.out⟩, fun h => absurd rfl h⟩
    · have HQ := Lib.hid hq
      clear hq
      go_wp2_with fail
      refine (must_bad _ _ _ HQ.out).mono ?_
      rintro e w6 ⟨chain, rfl, b6, f6⟩
      obtain ⟨F', s1, s2, s3⟩ := S5.out
      obtain ⟨nb, n1, n2, n3⟩ := b6
      exact ⟨rfl, fun h => absurd h HQ.out, fun _ => ⟨chain, rfl, ⟨nb, n1, Nat.le_trans s2.size n2, n3⟩, s2.trans0 f6⟩⟩
  by_cases k5 : gk = 5
  · subst k5
    obtain ⟨a, b, rfl, rfl, hma, hmb⟩ := h2 (.inr rfl)
    have la := M.out.look hma _ (Frame.alloc [] w (.cells #[.int .i64 5, .int .i64 a, .int .i64 b] 80))
    have lb := M.out.look hmb _ (Frame.alloc [] w (.cells #[.int .i64 5, .int .i64 a, .int .i64 b] 80))
    have e : againV dead bm ⟨5, (a : Int), (b : Int)⟩ l left = mkTimes (bm a) (bm b) l left := by simp [againV]
    rw [e]
    have hv : ∀ w1 (f : Frame [] w w1), _ := fun w1 f => times_any qb Q l left (bm a) (bm b) w1 (H.out.frame0 f) h0
    generalize mkTimes (bm a) (bm b) l left = q at *
    obtain ⟨⟨q1, q2⟩, ql, qf⟩ := q
    simp only at hv ⊢
    have HV := Lib.hid hv
    clear hv e
    go_enter Tryz.func43, Tryz.ntmps43
    go_wp2_with fail
    refine (HV.out _ (by (repeat first | assumption | exact Frame.refl _ _ | refine Frame.trans1 ?_ (Frame.alloc _ _ _) | refine Frame.trans1 ?_ (Frame.drew _ _) | refine Frame.trans1 ?_ (Frame.drewN _ _ _)))).mono ?_
    rintro e w5 ⟨rfl, s5⟩
    have S5 := Lib.hid (StEnd.behind (Frame.alloc [] w (.cells #[.int .i64 5, .int .i64 (a : Int), .int .i64 (b : Int)] 80)) s5)
    clear s5 HV
    by_cases hq : q2 = 0
    · subst hq
      go_wp2_with fail
      refine (must_ok _ _).mono ?_
      rintro e w6 ⟨rfl, rfl⟩
      go_wp2_with fail
      go_ret
      exact ⟨fun _ => ⟨rfl, S5.out⟩, fun h => absurd rfl h⟩
    · have HQ := Lib.hid hq
      clear hq
      go_wp2_with fail
      refine (must_bad _ _ _ HQ.out).mono ?_
      rintro e w6 ⟨chain, rfl, b6, f6⟩
      obtain ⟨F', s1, s2, s3⟩ := S5.out
      obtain ⟨nb, n1, n2, n3⟩ := b6
      exact ⟨rfl, fun h => absurd h HQ.out, fun _ => ⟨chain, rfl, ⟨nb, n1, Nat.le_trans s2.size n2, n3⟩, s2.trans0 f6⟩⟩
  by_cases k6 : gk = 6
  · subst k6
    obtain ⟨a, rfl, hma⟩ := h1 rfl
    have la := M.out.look hma _ (Frame.alloc [] w (.cells #[.int .i64 6, .int .i64 a, .int .i64 gb] 80))
    have e : againV dead bm ⟨6, (a : Int), gb⟩ l left = mkStar (bm a) l left := by simp [againV]
    rw [e]
    have hv : ∀ w1 (f : Frame [] w w1), _ := fun w1 f => star_any qb Q l left (bm a) w1 (H.out.frame0 f) h0
    generalize mkStar (bm a) l left = q at *
    obtain ⟨⟨q1, q2⟩, ql, qf⟩ := q
    simp only at hv ⊢
    have HV := Lib.hid hv
    clear hv e
    go_enter Tryz.func43, Tryz.ntmps43
    go_wp2_with fail
    refine (HV.out _ (by (repeat first | assumption | exact Frame.refl _ _ | refine Frame.trans1 ?_ (Frame.alloc _ _ _) | refine Frame.trans1 ?_ (Frame.drew _ _) | refine Frame.trans1 ?_ (Frame.drewN _ _ _)))).mono ?_
    rintro e w5 ⟨rfl, s5⟩
    have S5 := Lib.hid (StEnd.behind (Frame.alloc [] w (.cells #[.int .i64 6, .int .i64 (a : Int), .int .i64 gb] 80)) s5)
    clear s5 HV
    by_cases hq : q2 = 0
    · subst hq
      go_wp2_with fail
      refine (must_ok _ _).mono ?_
      rintro e w6 ⟨rfl, rfl⟩
      go_wp2_with fail
      go_ret
      exact ⟨fun _ => ⟨rfl, S5.out⟩, fun h => absurd rfl h⟩
    · have HQ := Lib.hid hq
      clear hq
      go_wp2_with fail
      refine (must_bad _ _ _ HQ.out).mono ?_
      rintro e w6 ⟨chain, rfl, b6, f6⟩
      obtain ⟨F', s1, s2, s3⟩ := S5.out
      obtain ⟨nb, n1, n2, n3⟩ := b6
      exact ⟨rfl, fun h => absurd h HQ.out, fun _ => ⟨chain, rfl, ⟨nb, n1, Nat.le_trans s2.size n2, n3⟩, s2.trans0 f6⟩⟩
  · have e : againV dead bm ⟨gk, ga, gb⟩ l left = ((0, 0), l, left) := by simp [againV, k2, k3b, k4, k5, k6]
    rw [e]
    have b2 : (gk == 2) = false := by simp [k2]
    have b3 : (gk == 3) = false := by simp [k3b]
    have b4 : (gk == 4) = false := by simp [k4]
    have b5 : (gk == 5) = false := by simp [k5]
    have b6 : (gk == 6) = false := by simp [k6]
    clear e k2 k3 k3b k4 k5 k6
    go_enter Tryz.func43, Tryz.ntmps43
    go_wp2_with fail
    go_ret
    exact ⟨fun _ => ⟨rfl, SF.out _ (Frame.alloc [] _ _)⟩, fun h => absurd rfl h⟩
end Go.Proofs.YtoidafgeckhkcaaGreat

