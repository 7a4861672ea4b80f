/- A graph's calls: DropNode. Gates as keys of a map. circ.Store in memory; what gate does. A graph's call: Add. -/
import Derived.Test.YtolkmapdbilolaaMg06
import Derived.Test.YtolkmapdbilolaaMg05
namespace Go.Proofs.Ytolkmapdbilolaa
open Go.RowKit
set_option linter.unusedSimpArgs false
set_option linter.unusedVariables false
theorem entered_dn : Entered 73 := by intro args w; simp [go_sem]
section
variable {w : World} {pb : Nat} {F : List Nat} {ns : List Nd} {es : List Ed} {given : Int}

theorem dropNode_none (h : GSt w pb F ns es given) (hu : Up (ns.map (·.id))) (hn : ns.length ≤ 1000000) (t : Int) (hm : t ∉ ns.map (·.id)) :
    Calls Try.prog 33 #[.pointer (some ⟨pb, 0, none⟩), .int .i64 t] w fun e w' => e = .returned (.int .i64 7) ∧ Frame [] w w' := by
  have hc := fun w' (f : Frame [] w w') => gfind_any (h.frame0 f) hu hn t
  rw [decide_eq_false hm] at hc
  generalize rank (ns.map (·.id)) t = r at *
  have HC := Lib.hid hc
  clear hc h hu hm
  go_enter Try.func33, Try.ntmps33
  go_wp2_with fail
  refine (HC.out _ (by (repeat first | assumption | exact Frame.refl _ _ | refine Frame.trans1 ?_ (Frame.alloc _ _ _) | refine Frame.trans1 ?_ (Frame.drew _ _) | refine Frame.trans1 ?_ (Frame.drewN _ _ _)))).mono ?_
  rintro e w3 ⟨rfl, f3⟩
  have F3 := Lib.hid ((show Frame [] w _ from by (repeat first | assumption | exact Frame.refl _ _ | refine Frame.trans1 ?_ (Frame.alloc _ _ _) | refine Frame.trans1 ?_ (Frame.drew _ _) | refine Frame.trans1 ?_ (Frame.drewN _ _ _))).trans1 f3)
  clear f3
  go_wp2_with fail
  go_ret
  exact ⟨rfl, F3.out⟩

theorem dropNode_edge (h : GSt w pb F ns es given) (hu : Up (ns.map (·.id))) (hn : ns.length ≤ 1000000) (he : es.length ≤ 1000000) (t : Int) (hm : t ∈ ns.map (·.id)) (hh : es.any (meets t) = true) :
    Calls Try.prog 33 #[.pointer (some ⟨pb, 0, none⟩), .int .i64 t] w fun e w' => e = .returned (.int .i64 8) ∧ Frame [] w w' := by
  have hc := fun w' (f : Frame [] w w') => gfind_any (h.frame0 f) hu hn t
  rw [decide_eq_true hm] at hc
  generalize rank (ns.map (·.id)) t = r at *
  have HC := Lib.hid hc
  obtain ⟨an, nc, ae, ec, G, H, hb, sn, se, n1, n2, n3, rfl⟩ := h
  have A := Lib.hid (And.intro hb se)
  have HH := Lib.hid hh
  clear hc hu hm hb sn se n1 n2 n3 hh
  go_enter Try.func33, Try.ntmps33
  go_wp2_with fail
  have bt := Blk.new w 3 #[.int .i64 t]
  refine (HC.out _ (by (repeat first | assumption | exact Frame.refl _ _ | refine Frame.trans1 ?_ (Frame.alloc _ _ _) | refine Frame.trans1 ?_ (Frame.drew _ _) | refine Frame.trans1 ?_ (Frame.drewN _ _ _)))).mono ?_
  rintro e w3 ⟨rfl, f3⟩
  have F3 := Lib.hid ((show Frame [] w _ from by (repeat first | assumption | exact Frame.refl _ _ | refine Frame.trans1 ?_ (Frame.alloc _ _ _) | refine Frame.trans1 ?_ (Frame.drew _ _) | refine Frame.trans1 ?_ (Frame.drewN _ _ _))).trans1 f3)
  have c1 := (A.out.1.frame F3.out (by simp)).at 1 rfl
  have bt3 := bt.frame f3 (by simp)
  have ct := bt3.at 0 rfl
  have BT := Lib.hid bt3
  clear bt3 bt f3
  go_wp2_with fail
  refine (containsFunc_edge ae ec es H 73 #[.pointer (some ⟨w.heap.size, 0, none⟩)] (meets t) _ (A.out.2.frame0 F3.out) (by omega) ⟨entered_dn, fun w' f e => meets_fn t e _ w' ((BT.out.frame f (by simp)).at 0 rfl)⟩).mono ?_
  rintro e w4 ⟨rfl, f4⟩
  rw [HH.out]
  have F4 := Lib.hid f4
  clear f4 ct
  go_wp2_with fail
  go_ret
  exact ⟨rfl, F3.out.trans1 F4.out⟩

theorem dropNode_ok (h : GSt w pb F ns es given) (hu : Up (ns.map (·.id))) (hn : ns.length ≤ 1000000) (he : es.length ≤ 1000000) (t : Int) (hm : t ∈ ns.map (·.id)) (hh : es.any (meets t) = false) :
    Calls Try.prog 33 #[.pointer (some ⟨pb, 0, none⟩), .int .i64 t] w fun e w' => e = .returned (.int .i64 0) ∧ GEnd w pb F (ns.eraseIdx (rank (ns.map (·.id)) t)) es given w' := by
  have hc := fun w' (f : Frame [] w w') => gfind_any (h.frame0 f) hu hn t
  rw [decide_eq_true hm] at hc
  have hr := (rank_lt hu hm).1
  rw [List.length_map] at hr
  generalize rank (ns.map (·.id)) t = r at *
  have HC := Lib.hid hc
  obtain ⟨an, nc, ae, ec, G, H, hb, sn, se, n1, n2, n3, rfl⟩ := h
  obtain ⟨k, hk⟩ : ∃ k, ns.length = k + 1 := ⟨ns.length - 1, by omega⟩
  rcases id sn with ⟨_, rfl, _⟩ | ⟨b, cap', hv, hG, hrow⟩
  · simp at hr
  injection hv with hv1 _ hv2
  subst hv1 hv2 hG
  have A := Lib.hid (And.intro hb (And.intro hrow (And.intro se (And.intro n1 (And.intro n2 n3)))))
  have HH := Lib.hid hh
  have HK := Lib.hid hk
  have HL : Hid ((ns.eraseIdx r).length = k) := Lib.hid (by rw [List.length_eraseIdx_of_lt hr, hk]; rfl)
  rw [hk] at hr
  have hb' := hb
  rw [hk] at hb'
  have HB := Lib.hid hb'
  clear hc hu hm hb hb' sn se n1 n2 n3 hh hrow
  go_enter Try.func33, Try.ntmps33
  go_wp2_with fail
  have bt := Blk.new w 3 #[.int .i64 t]
  refine (HC.out _ (by (repeat first | assumption | exact Frame.refl _ _ | refine Frame.trans1 ?_ (Frame.alloc _ _ _) | refine Frame.trans1 ?_ (Frame.drew _ _) | refine Frame.trans1 ?_ (Frame.drewN _ _ _)))).mono ?_
  rintro e w3 ⟨rfl, f3⟩
  have F3 := Lib.hid ((show Frame [] w _ from by (repeat first | assumption | exact Frame.refl _ _ | refine Frame.trans1 ?_ (Frame.alloc _ _ _) | refine Frame.trans1 ?_ (Frame.drew _ _) | refine Frame.trans1 ?_ (Frame.drewN _ _ _))).trans1 f3)
  have hb3 := HB.out.frame F3.out (by simp)
  have c1 := hb3.at 1 rfl
  have bt3 := bt.frame f3 (by simp)
  have ct := bt3.at 0 rfl
  have BT := Lib.hid bt3
  clear bt3 bt f3 hb3
  go_wp2_with fail
  refine (containsFunc_edge ae ec es H 73 #[.pointer (some ⟨w.heap.size, 0, none⟩)] (meets t) _ (A.out.2.2.1.frame0 F3.out) (by omega) ⟨entered_dn, fun w' f e => meets_fn t e _ w' ((BT.out.frame f (by simp)).at 0 rfl)⟩).mono ?_
  rintro e w4 ⟨rfl, f4⟩
  rw [HH.out]
  have F4 := Lib.hid (F3.out.trans1 f4)
  have hb4 := HB.out.frame F4.out (by simp)
  have c0 := hb4.at 0 rfl
  have HB4 := Lib.hid hb4
  clear f4 ct c1 hb4
  go_wp2_with fail
  refine (del_node b nc k r ns w4 (by have := A.out.2.1.frame F4.out (by simp); rw [HK.out] at this; exact this) HK.out (by omega)).mono ?_
  rintro e w5 ⟨rfl, hr5, f5⟩
  have hpb : pb ≠ b := by have := A.out.2.2.2.1; simpa using this
  have hb5 := HB4.out.frame f5 (by simpa using hpb)
  have z0 := hb5.frozen 0
  have q0 := hb5.at 0 rfl
  have X := Lib.hid (And.intro hb5 (And.intro hr5 f5))
  clear hb5 hr5 f5 c0
  go_wp2_with fail
  go_ret
  have fw : Frame (pb :: ([b] ++ H)) w w5 := (F4.out.mono (S' := pb :: ([b] ++ H)) (by simp)).trans1 (X.out.2.2.mono (by simp))
  refine ⟨rfl, pb :: ([b] ++ H), ⟨some ⟨b, 0, none⟩, nc, ae, ec, [b], H, ?_, ?_, ?_, A.out.2.2.2.1, A.out.2.2.2.2.1, A.out.2.2.2.2.2, rfl⟩, fw.trans1 (Frame.setCell (S := pb :: ([b] ++ H)) w5 _ _ (by simp)), fun x hx => .inl hx⟩
  · rw [HL.out]
    have := X.out.1.set 0 (.slice (some ⟨b, 0, none⟩) k nc)
    simpa using this
  · rw [HL.out]
    refine .inr ⟨b, nc, by rw [HL.out], rfl, ?_⟩
    rw [HL.out]
    exact RowAt.set_ne X.out.2.1 _ (fun e => hpb e.symm)
  · have s4 := (A.out.2.2.1.frame0 F4.out).frame X.out.2.2 (fun x hx hm => by simp at hm; subst hm; exact A.out.2.2.2.2.2 x (by simp) hx)
    exact s4.frame (S := [pb]) (Frame.setCell w5 ⟨pb, 0, none⟩ _ (by simp)) (by simp; intro x hx e; subst e; exact A.out.2.2.2.2.1 hx)
end
end Go.Proofs.Ytolkmapdbilolaa

namespace Go.Proofs.Ytolkmapdbilolaa
open Go.RowKit
set_option linter.unusedSimpArgs false
set_option linter.unusedVariables false

structure Gt where
  k : Int
  a : Int
  b : Int
  deriving DecidableEq

def Gt.val (g : Gt) : Value := .agg #[.int .i64 g.k, .int .i64 g.a, .int .i64 g.b]
def Gt.cs (g : Gt) : List Value := [.int .i64 g.k, .int .i64 g.a, .int .i64 g.b]
def ents (l : List Gt) : List MapEntry := l.zipIdx.map fun (g, i) => { key := g.val, val := .int .i64 i, born := i }
/-- The place of a gate. -/
def find (g : Gt) (l : List Gt) (i : Nat) : Option Nat := match l with
  | [] => none
  | h :: t => if g = h then some i else find g t (i + 1)

theorem eq_gate (d : Nat) (g h : Gt) (w : World) : (Op.equalIn (d+2) 39 g.val h.val).run Try.prog w = .ok (decide (g = h)) w := by
  simp [Op.equalIn, Gt.val, go_sem]
  by_cases h1 : g.k = h.k <;> by_cases h2 : g.a = h.a <;> by_cases h3 : g.b = h.b <;> simp [h1, h2, h3] <;> first | (cases g; cases h; simp_all) | (intro e; subst e; simp_all)

theorem equal_gate (g h : Gt) (w : World) : (Op.equal 39 g.val h.val).run Try.prog w = .ok (decide (g = h)) w := eq_gate 9998 g h w

theorem findAsking_gate (g : Gt) (w : World) : ∀ (l : List Gt) (i : Nat), (Instr.findAsking 39 g.val ((l.zipIdx i).map fun (g, i) => { key := g.val, val := .int .i64 i, born := i }) i).run Try.prog w = .ok ((find g l i).map fun k => (k, .int .i64 k)) w
  | [], i => by simp [Instr.findAsking, find, go_sem]
  | h :: t, i => by
    have ih := findAsking_gate g w t (i + 1)
    simp only [List.zipIdx_cons, List.map_cons, Instr.findAsking, find]
    by_cases e : g = h
    · simp [Sem.run_bind, equal_gate, Result.andThen, e]
    · simp [Sem.run_bind, equal_gate, Result.andThen, e, ih]

theorem findKey_gate (g : Gt) (w : World) (l : List Gt) : (Instr.findKey 39 g.val (ents l)).run Try.prog w = .ok ((find g l 0).map fun k => (k, .int .i64 k)) w := by
  cases l with
  | nil => simp [Instr.findKey, ents, find, go_sem, Instr.findNow]
  | cons h t =>
    have := findAsking_gate g w (h :: t) 0
    simp only [Instr.findKey, ents, go_sem, Instr.findNow, Instr.sameNow, List.zipIdx_cons, List.map_cons] at *
    simpa [Result.andThen] using this

theorem checkKey_gate (e : Bool) (g : Gt) (w : World) : (Instr.checkKey e 10000 39 g.val).run Try.prog w = .ok () w := by
  have hk : ∀ n x (w : World), (Instr.checkKey e (n + 1) 3 (.int .i64 x)).run Try.prog w = .ok () w := by
    intro n x w; simp [Instr.checkKey, go_sem]
  have h2 : ∀ n, (Instr.checkKey e (n + 2) 39 g.val).run Try.prog w = .ok () w := by
    intro n
    rw [Instr.checkKey]
    simp only [Gt.val, go_sem, hk]
    simp [go_sem, hk]
  exact h2 9998

/-- What a look-up tells. -/
def looked (g : Gt) (l : List Gt) : Value := match find g l 0 with
  | some k => .tuple #[.int .i64 k, .bool true]
  | none => .tuple #[.int .i64 0, .bool false]

theorem lookup_gate (w : World) (mb : Nat) (l : List Gt) (clock : Nat) (g : Gt) (h : MBlk w mb (ents l).toArray clock) :
    (Instr.lookup 106 (.map (some mb)) g.val true).run Try.prog w = .ok (looked g l) w := by
  have h1 := checkKey_gate (ents l).isEmpty g w
  have h2 := findKey_gate g w l
  have hg : (getObj mb).run Try.prog w = .ok (.map (ents l).toArray clock) w := by unfold MBlk at h; simp [getObj, Sem.run, h]
  unfold looked
  cases hf : find g l 0 with
  | none => simp [Instr.lookup, go_sem, hg, h1, h2, hf]
  | some p => simp [Instr.lookup, go_sem, hg, h1, h2, hf]

theorem update_gate (w : World) (mb : Nat) (l : List Gt) (g : Gt) (h : MBlk w mb (ents l).toArray l.length) (hf : find g l 0 = none) :
    (Instr.mapUpdate 106 (.map (some mb)) g.val (.int .i64 l.length)).run Try.prog w = .ok () (setMap w mb (ents (l ++ [g])).toArray (l.length + 1)) := by
  have h1 := checkKey_gate false g w
  have h2 := findKey_gate g w l
  have hg : (getObj mb).run Try.prog w = .ok (.map (ents l).toArray l.length) w := by unfold MBlk at h; simp [getObj, Sem.run, h]
  have hs : ∀ o, (setObj mb o).run Try.prog w = .ok () { w with heap := w.heap.setIfInBounds mb o } := by intro o; unfold MBlk at h; simp [setObj, Sem.run, h]
  have he : (ents l).toArray.push { key := g.val, val := .int .i64 l.length, born := l.length } = (ents (l ++ [g])).toArray := by simp [ents, List.zipIdx_append]
  simp [Instr.mapUpdate, go_sem, hg, h1, h2, hs, hf, ← he, setMap]

end Go.Proofs.Ytolkmapdbilolaa

namespace Go.Proofs.Ytolkmapdbilolaa
open Go.RowKit
set_option linter.unusedSimpArgs false
set_option linter.unusedVariables false

/-- A store of gates at block pb; F: all its blocks. -/
def St (w : World) (pb : Nat) (F : List Nat) (l : List Gt) (left : Int) : Prop :=
  ∃ lb cap mb kb, F = [pb, lb, mb, kb] ∧
    Blk w pb 110 #[.slice (some ⟨lb, 0, none⟩) l.length cap, .map (some mb), .pointer (some ⟨kb, 0, none⟩)] ∧
    RowAt w lb 39 3 l.length cap (l.flatMap Gt.cs) ∧ MBlk w mb (ents l).toArray l.length ∧ Blk w kb 154 #[.int .i64 left] ∧
    pb ≠ lb ∧ pb ≠ kb ∧ lb ≠ kb ∧ 0 ≤ left ∧ left + l.length ≤ 1073741824

theorem RowAt.ne_m {w : World} {b e size n cap b' : Nat} {xs : List Value} {es : Array MapEntry} {c : Nat} (h : RowAt w b e size n cap xs) (h' : MBlk w b' es c) : b ≠ b' := let ⟨_, h1, _⟩ := h.blk; h1.ne_m h'

theorem St.lt {w : World} {pb : Nat} {F : List Nat} {l : List Gt} {left : Int} (h : St w pb F l left) : ∀ x ∈ F, x < w.heap.size := by
  obtain ⟨lb, cap, mb, kb, rfl, h1, h2, h3, h4, _⟩ := h
  simp [h1.lt, h2.lt, h3.lt, h4.lt]
theorem St.frame {w w' : World} {pb : Nat} {F S : List Nat} {l : List Gt} {left : Int} (h : St w pb F l left) (f : Frame S w w') (hS : ∀ x ∈ F, x ∉ S) : St w' pb F l left := by
  obtain ⟨lb, cap, mb, kb, rfl, h1, h2, h3, h4, h5⟩ := h
  simp at hS
  exact ⟨lb, cap, mb, kb, rfl, h1.frame f hS.1, h2.frame f hS.2.1, h3.frame f hS.2.2.1, h4.frame f hS.2.2.2, h5⟩
theorem St.frame0 {w w' : World} {pb : Nat} {F : List Nat} {l : List Gt} {left : Int} (h : St w pb F l left) (f : Frame [] w w') : St w' pb F l left := h.frame f (by simp)

theorem infoGate : (Try.prog.info? 39).map (fun i => (i.zero, i.size, i.bytes)) = some (some (.agg #[.int .i64 0, .int .i64 0, .int .i64 0]), 3, 24) := by kernel_rfl

theorem gate_old (pb : Nat) (F : List Nat) (l : List Gt) (left : Int) (x y z : Int) (w : World) (h : St w pb F l left) (k : Nat) (hf : find ⟨x, y, z⟩ l 0 = some k) :
    Calls Try.prog 111 #[.pointer (some ⟨pb, 0, none⟩), .agg #[.int .i64 x, .int .i64 y, .int .i64 z]] w fun e w' => e = .returned (.int .i64 k) ∧ Frame [] w w' := by
  obtain ⟨lb, cap, mb, kb, -, h0, -, hm, -⟩ := h
  have hk := hm.alloc (.cells #[.int .i64 x, .int .i64 y, .int .i64 z] 39)
  have c1 := (h0.alloc (.cells #[.int .i64 x, .int .i64 y, .int .i64 z] 39)).at 1 rfl
  have hlk : ∀ n, (Instr.lookup 106 (.map (some mb)) (.agg #[.int .i64 x, .int .i64 y, .int .i64 z]) true).run Try.prog ((w.alloc (.cells #[.int .i64 x, .int .i64 y, .int .i64 z] 39)).drewN n) = .ok (.tuple #[.int .i64 k, .bool true]) ((w.alloc (.cells #[.int .i64 x, .int .i64 y, .int .i64 z] 39)).drewN n) := by
    intro n
    have := lookup_gate _ mb l _ ⟨x, y, z⟩ (hk.drewN n)
    rw [Gt.val] at this
    rw [this]
    simp [looked, hf]
  clear hk hm h0 hf
  go_enter Try.func111, Try.ntmps111
  go_wp2_with fail
  go_quiet (fail)
  go_wp2_with fail
  go_ret
  exact ⟨rfl, (Frame.alloc _ _ _).trans0 (Frame.drewN _ _ _)⟩

theorem gate_full (pb : Nat) (F : List Nat) (l : List Gt) (x y z : Int) (w : World) (h : St w pb F l 0) (hf : find ⟨x, y, z⟩ l 0 = none) :
    Calls Try.prog 111 #[.pointer (some ⟨pb, 0, none⟩), .agg #[.int .i64 x, .int .i64 y, .int .i64 z]] w fun e w' => ∃ chain, e = .panicked chain ∧ bailing w 10 1 chain w' ∧ Frame [] w w' := by
  obtain ⟨lb, cap, mb, kb, -, h0, -, hm, hkb, -⟩ := h
  have hk := hm.alloc (.cells #[.int .i64 x, .int .i64 y, .int .i64 z] 39)
  have c1 := (h0.alloc (.cells #[.int .i64 x, .int .i64 y, .int .i64 z] 39)).at 1 rfl
  have c2 := (h0.alloc (.cells #[.int .i64 x, .int .i64 y, .int .i64 z] 39)).at 2 rfl
  have hlk : ∀ n, (Instr.lookup 106 (.map (some mb)) (.agg #[.int .i64 x, .int .i64 y, .int .i64 z]) true).run Try.prog ((w.alloc (.cells #[.int .i64 x, .int .i64 y, .int .i64 z] 39)).drewN n) = .ok (.tuple #[.int .i64 0, .bool false]) ((w.alloc (.cells #[.int .i64 x, .int .i64 y, .int .i64 z] 39)).drewN n) := by
    intro n
    have := lookup_gate _ mb l _ ⟨x, y, z⟩ (hk.drewN n)
    rw [Gt.val] at this
    rw [this]
    simp [looked, hf]
  clear hk hm h0 hf
  go_enter Try.func111, Try.ntmps111
  go_wp2_with fail
  go_quiet (fail)
  go_wp2_with fail
  refine (use_none kb _ ((hkb.alloc _).drewN _)).mono ?_
  rintro e w2 ⟨chain, rfl, ⟨nb, h1, h2, h3⟩, f2⟩
  refine ⟨rfl, chain, rfl, ⟨nb, h1, ?_, h3⟩, ((Frame.alloc _ _ _).trans0 (Frame.drewN _ _ _)).trans0 f2⟩
  simp [World.drewN] at h2; omega

theorem gate_new (pb : Nat) (F : List Nat) (l : List Gt) (left : Int) (x y z : Int) (w : World) (h : St w pb F l left) (hf : find ⟨x, y, z⟩ l 0 = none) (hl1 : 1 ≤ left) :
    Calls Try.prog 111 #[.pointer (some ⟨pb, 0, none⟩), .agg #[.int .i64 x, .int .i64 y, .int .i64 z]] w fun e w' => e = .returned (.int .i64 l.length) ∧
      ∃ F', St w' pb F' (l ++ [⟨x, y, z⟩]) (left - 1) ∧ Frame F w w' ∧ Grow F F' w := by
  obtain ⟨lb, cap, mb, kb, rfl, h0, hl, hm, hkb, n1, n2, n3, -, hsum⟩ := h
  have hl2 : left ≤ 1073741824 := by omega
  have hlen : l.length ≤ 1073741824 := by omega
  have hk := hm.alloc (.cells #[.int .i64 x, .int .i64 y, .int .i64 z] 39)
  have c1 := (h0.alloc (.cells #[.int .i64 x, .int .i64 y, .int .i64 z] 39)).at 1 rfl
  have c2 := (h0.alloc (.cells #[.int .i64 x, .int .i64 y, .int .i64 z] 39)).at 2 rfl
  have hlk : ∀ n, (Instr.lookup 106 (.map (some mb)) (.agg #[.int .i64 x, .int .i64 y, .int .i64 z]) true).run Try.prog ((w.alloc (.cells #[.int .i64 x, .int .i64 y, .int .i64 z] 39)).drewN n) = .ok (.tuple #[.int .i64 0, .bool false]) ((w.alloc (.cells #[.int .i64 x, .int .i64 y, .int .i64 z] 39)).drewN n) := by
    intro n
    have := lookup_gate _ mb l _ ⟨x, y, z⟩ (hk.drewN n)
    rw [Gt.val] at this
    rw [this]
    simp [looked, hf]
  have H := Lib.hid hf
  have HS := Lib.hid hsum
  clear hf hsum
  go_enter Try.func111, Try.ntmps111
  go_wp2_with fail
  go_quiet (fail)
  go_wp2_with fail
  refine (use_any kb left _ ((hkb.alloc _).drewN _) hl1 hl2).mono ?_
  rintro e w2 ⟨rfl, f2, hkb2⟩
  have fr : Frame [kb] w w2 := (((Frame.alloc [kb] w (.cells #[.int .i64 x, .int .i64 y, .int .i64 z] 39)).trans1 (Frame.drewN [kb] _ nq)).trans1 f2)
  have hbx := (((Blk.new w 39 #[.int .i64 x, .int .i64 y, .int .i64 z]).drewN nq).frame f2 (by have := hkb.lt; simp; omega))
  have hm2 := hm.frame fr (by simp; exact (hkb.ne_m hm).symm)
  have h2 := h0.frame fr (by simpa using n2)
  have hl3 := hl.frame fr (by simpa using n3)
  have nm1 := h0.ne_m hm
  have nm2 := hl.ne_m hm
  have nm3 := hkb.ne_m hm
  have g0 := h2.at 0 rfl
  have f0 := h2.frozen 0
  have b0 := hbx.at 0 rfl
  have b1 := hbx.at 1 rfl
  have b2 := hbx.at 2 rfl
  have lt1 := h0.lt
  have lt2 := hl.lt
  clear hlk c1 c2 hk
  go_wp2_with fail
  obtain ⟨i0, hi, hz0, hz1, hz2⟩ := info_parts infoGate
  have hmx : l.length + 1 ≤ maxLen := by unfold maxLen; omega
  have g0a := (h2.alloc (.cells #[.int .i64 x, .int .i64 y, .int .i64 z] 39)).at 0 rfl
  have HI := Lib.hid (And.intro hi (And.intro hz0 (And.intro hz1 hz2)))
  have HM := Lib.hid hmx
  clear hi hz0 hz1 hz2 hmx
  go_cut [] (fun wx => ∃ g cap', Blk wx pb 110 #[.slice (some ⟨g, 0, none⟩) (l.length + 1) cap', .map (some mb), .pointer (some ⟨kb, 0, none⟩)] ∧
    RowAt wx g 39 3 (l.length + 1) cap' (l.flatMap Gt.cs ++ [.int .i64 x, .int .i64 y, .int .i64 z]) ∧ (lb = g ∨ w2.heap.size ≤ g) ∧ Frame [pb, lb] w2 wx)
  case first =>
    go_region_law (refine step_append_lies _ rfl (.tmp 32) (.tmp 34) 37 rfl 0 39 i0 _ 3 24 Try.underlying37 HI.out.1 HI.out.2.1 HI.out.2.2.1 HI.out.2.2.2 rfl (by decide) (.slice (some ⟨lb, 0, none⟩) l.length cap) l.length (l.flatMap Gt.cs) (by simp [Act.eval, Act.put]) (hl3.drew.alloc _) ⟨w2.heap.size, 0, none⟩ 1 1 [.int .i64 x, .int .i64 y, .int .i64 z] (by simp [Act.eval, Act.put, World.drew]) rfl (World.news_of_block (heap_alloc_new w2.drew _)) (by simp [Value.oneCell']) (by omega) HM.out (by omega) (by omega) (w2.heap.size + 1) (by simp [World.drew]) ?_; intro g cap' w3 hown hgrow hat hlt; have f3 := Frame.of_grown (S := [lb]) hgrow (by simp [Value.ownBlock]); have h3 := (h2.drew.alloc _).frame f3 (by simpa using n1); have p0 := h3.at 0 rfl; have p1 := h3.frozen 0)
    all_goals
      go_wp2_with fail
      go_meet
      case rel =>
        have hat' : lb = g ∨ w2.heap.size ≤ g := by
          rcases hat with h | h
          · left; simpa [Value.ownBlock] using h
          · right; omega
        have hpg : pb ≠ g := by rcases hat' with h | h; exact h ▸ n1; have := h2.lt; omega
        refine ⟨g, cap', h3.set 0 _, RowAt.set_ne hown _ (fun e => hpg e.symm), hat', ?_⟩
        have fa : Frame [pb, lb] w2 (w2.drew.alloc (.cells #[.int .i64 x, .int .i64 y, .int .i64 z] 39)) := (Frame.drew _ _).trans1 (Frame.alloc _ _ _)
        exact (fa.trans f3 (by simp)).trans1 (Frame.setCell _ _ _ (by simp))
  case rest =>
    obtain ⟨g, cap', q0, q1, q2, q3⟩ := hcut
    have hb3 := hbx.frame q3 (by simp; omega)
    have hm3 := hm2.frame q3 (by simp; exact ⟨fun e => nm1 e.symm, fun e => nm2 e.symm⟩)
    have hk3 := hkb2.frame q3 (by simp; exact ⟨fun e => n2 e.symm, fun e => n3 e.symm⟩)
    have hup := update_gate wc.drew mb l ⟨x, y, z⟩ hm3.drew H.out
    rw [Gt.val] at hup
    have r1 := q0.at 1 rfl
    have r2 := hb3.at 0 rfl
    have r3 := hb3.at 1 rfl
    have r4 := hb3.at 2 rfl
    clear g0a b0 b1 b2 g0 f0
    go_wp2_with fail
    go_region
    go_wp2_with fail
    go_ret
    refine ⟨rfl, [pb, g, mb, kb], ⟨g, cap', mb, kb, rfl, ?_, ?_, ?_, ?_, ?_, n2, ?_, by omega, ?_⟩, ?_, ?_⟩
    · have := q0.drew.frame (Frame.setMap (S := [mb]) wc.drew mb (ents (l ++ [⟨x, y, z⟩])).toArray (l.length + 1) (by simp)) (by simpa using nm1)
      simpa using this
    · have := q1.drew.frame (Frame.setMap (S := [mb]) wc.drew mb (ents (l ++ [⟨x, y, z⟩])).toArray (l.length + 1) (by simp)) (by simpa using q1.ne_m hm3)
      simpa [Gt.cs] using this
    · have := hm3.drew.set (ents (l ++ [⟨x, y, z⟩])).toArray (l.length + 1)
      simpa using this
    · exact hk3.drew.frame (Frame.setMap (S := [mb]) wc.drew mb (ents (l ++ [⟨x, y, z⟩])).toArray (l.length + 1) (by simp)) (by simpa using nm3)
    · rcases q2 with h | h
      · exact h ▸ n1
      · have := h2.lt; omega
    · rcases q2 with h | h
      · exact h ▸ n3
      · have := hkb2.lt; omega
    · have := HS.out; simp; omega
    · exact ((fr.mono (S' := [pb, lb, mb, kb]) (by simp)).trans q3 (by simp)).trans ((Frame.drew [mb] _).trans1 (Frame.setMap _ _ _ _ (by simp))) (by simp)
    · intro x hx
      simp at hx ⊢
      have := fr.size
      rcases hx with rfl | rfl | rfl | rfl
      · simp
      · rcases q2 with rfl | h
        · simp
        · right; omega
      · simp
      · simp

end Go.Proofs.Ytolkmapdbilolaa

namespace Go.Proofs.Ytolkmapdbilolaa
open Go.RowKit
set_option linter.unusedSimpArgs false
set_option linter.unusedVariables false
section
variable {w : World} {pb : Nat} {F : List Nat} {ns : List Nd} {es : List Ed} {given : Int}

set_option maxHeartbeats 4000000 in
set_option maxRecDepth 100000 in
theorem gadd_ok (h : GSt w pb F ns es given) (hu : Up (ns.map (·.id))) (hn : ns.length ≤ 1000000) (he : es.length < 60) (hg0 : 0 ≤ given) (hg1 : given < 1099511627776) (x y : Int) (s : ByteArray) (hs : namedB s = true) (hx : x ∈ ns.map (·.id)) (hy : y ∈ ns.map (·.id)) :
    Calls Try.prog 29 #[.pointer (some ⟨pb, 0, none⟩), .int .i64 x, .string s, .int .i64 y] w fun e w' => e = .returned (.tuple #[.int .i64 (given + 1), .int .i64 0]) ∧ GEnd w pb F ns (es ++ [⟨given + 1, x, s, y⟩]) (given + 1) w' := by
  have hcx := ghas_any h hu hn x
  rw [decide_eq_true hx] at hcx
  have hcy := fun w' (f : Frame [] w w') => ghas_any (h.frame0 f) hu hn y
  rw [decide_eq_true hy] at hcy
  have hnm := named_any s w (by simp [namedB] at hs; omega)
  rw [hs] at hnm
  obtain ⟨an, nc, ae, ec, G, H, hb, sn, se, n1, n2, n3, rfl⟩ := h
  have HX := Lib.hid hcx
  have HY := Lib.hid hcy
  have HN := Lib.hid hnm
  have A := Lib.hid (And.intro hb (And.intro sn (And.intro se (And.intro n1 (And.intro n2 n3)))))
  clear hcx hcy hnm hb sn se n1 n2 n3 hu hx hy hs
  go_enter Try.func29, Try.ntmps29
  go_wp2_with fail
  refine HN.out.mono ?_
  rintro e w ⟨rfl, rfl⟩
  go_wp2_with fail
  refine HX.out.mono ?_
  rintro e w2 ⟨rfl, f2⟩
  have F2 := Lib.hid f2
  clear f2
  go_wp2_with fail
  refine (HY.out _ F2.out).mono ?_
  rintro e w3 ⟨rfl, f3⟩
  have F3 := Lib.hid (F2.out.trans1 f3)
  clear f3 F2
  have hb3 := A.out.1.frame F3.out (by simp)
  have c1 := hb3.at 1 rfl
  have c2 := hb3.at 2 rfl
  have z2 := hb3.frozen 2
  have hb5 : Blk (w3.setCell ⟨pb, 2, none⟩ (.int .i64 (given + 1))) pb 59 #[.slice an ns.length nc, .slice ae es.length ec, .int .i64 (given + 1)] := by simpa using hb3.set 2 (.int .i64 (given + 1))
  have fs := Frame.setCell (S := [pb]) w3 ⟨pb, 2, none⟩ (.int .i64 (given + 1)) (by simp)
  have HB5 := Lib.hid hb5
  have FS := Lib.hid fs
  have d1 := hb5.at 1 rfl
  have d2 := hb5.at 2 rfl
  clear hb3 hb5 fs
  have hl : ¬ (60 : Int) ≤ es.length := by omega
  have hl2 : ¬ (1099511627776 : Int) ≤ given := by omega
  go_wp2_with fail
  generalize w3.setCell ⟨pb, 2, none⟩ (.int .i64 (given + 1)) = w5 at *
  obtain ⟨i0, hi, hz0, hz1, hz2⟩ := info_parts infoEdge
  have HI := Lib.hid (And.intro hi (And.intro hz0 (And.intro hz1 hz2)))
  clear hi hz0 hz1 hz2 c1 c2 z2
  have HM : Hid (es.length + 1 ≤ maxLen) := Lib.hid (by unfold maxLen; omega)
  have f5 : Frame [pb] w w5 := (F3.out.mono (by simp)).trans1 FS.out
  have se5 : Sl w5 49 4 Ed.cs (.slice ae es.length ec) es H := A.out.2.2.1.frame f5 (by simp; intro x hx e; subst e; exact A.out.2.2.2.2.1 hx)
  have SE := Lib.hid se5
  have F5 := Lib.hid f5
  clear se5 f5
  have d1a := (HB5.out.alloc (.cells #[.int .i64 (given + 1), .int .i64 x, .string s, .int .i64 y] 49)).at 1 rfl
  go_cut [] (fun wx => ∃ g cap', Blk wx pb 59 #[.slice an ns.length nc, .slice (some ⟨g, 0, none⟩) (es.length + 1) cap', .int .i64 (given + 1)] ∧
    Sl wx 49 4 Ed.cs (.slice (some ⟨g, 0, none⟩) (es.length + 1) cap') (es ++ [⟨given + 1, x, s, y⟩]) [g] ∧ (g ∈ H ∨ w5.heap.size ≤ g) ∧ Frame (pb :: H) w5 wx)
  case first =>
    go_region_law (refine step_append_lies _ rfl (.tmp 50) (.tmp 59) 53 rfl 0 49 i0 _ 4 40 Try.underlying53 HI.out.1 HI.out.2.1 HI.out.2.2.1 HI.out.2.2.2 rfl (by decide) (.slice ae es.length ec) es.length (es.flatMap Ed.cs) (by simp [Act.eval, Act.put]) ((SE.out.frame0 (Frame.drew [] _)).frame0 (Frame.alloc [] _ _)).owns ⟨w5.heap.size, 0, none⟩ 1 1 [.int .i64 (given + 1), .int .i64 x, .string s, .int .i64 y] (by simp [Act.eval, Act.put, World.drew]) rfl (World.news_of_block (heap_alloc_new w5.drew _)) (by simp [Value.oneCell']) (by omega) HM.out (by omega) (by omega) (w5.heap.size + 1) (by simp [World.drew]) ?_; intro g cap' w6 hown hgrow hat hlt; have f6 := Frame.of_grown (S := H) hgrow (fun k hk => by rw [SE.out.own_block k hk]; simp); have h6 := (HB5.out.drew.alloc _).frame f6 A.out.2.2.2.2.1; have p0 := h6.at 1 rfl; have p1 := h6.frozen 1)
    all_goals
      go_wp2_with fail
      go_meet
      case rel =>
        have hat' : g ∈ H ∨ w5.heap.size ≤ g := by
          rcases hat with h | h
          · left; rw [SE.out.own_block g h]; simp
          · right; omega
        have hpg : pb ≠ g := by
          rcases hat' with h | h
          · intro e; subst e; exact A.out.2.2.2.2.1 h
          · have := HB5.out.lt; omega
        have fa : Frame (pb :: H) w5 (w5.drew.alloc (.cells #[.int .i64 (given + 1), .int .i64 x, .string s, .int .i64 y] 49)) := (Frame.drew _ _).trans1 (Frame.alloc _ _ _)
        refine ⟨g, cap', by simpa using h6.set 1 (.slice (some ⟨g, 0, none⟩) (es.length + 1) cap'), ?_, hat', (fa.trans f6 (by simp; intro x hx; exact .inl (.inr hx))).trans1 (Frame.setCell _ _ _ (by simp))⟩
        refine .inr ⟨g, cap', by simp, rfl, ?_⟩
        have := RowAt.set_ne (a := ⟨pb, 1, none⟩) hown (.slice (some ⟨g, 0, none⟩) (es.length + 1) cap') (fun e => hpg e.symm)
        simpa [Ed.cs] using this
  case rest =>
    obtain ⟨g, cap', q0, q1, q2, q3⟩ := hcut
    have r1 := q0.at 2 rfl
    have Q := Lib.hid (And.intro q0 (And.intro q1 (And.intro q2 q3)))
    clear q0 q1 q2 q3 d1a d1 d2
    go_wp2_with fail
    go_ret2
    have hz5 := F5.out.size
    have fw : Frame (pb :: (G ++ H)) w wc := (F5.out.mono (S' := pb :: (G ++ H)) (by simp)).trans1 (Q.out.2.2.2.mono (by simp; intro x hx; exact .inl (.inr (.inr hx))))
    refine ⟨rfl, pb :: (G ++ [g]), ⟨an, nc, some ⟨g, 0, none⟩, cap', G, [g], ?_, ?_, ?_, A.out.2.2.2.1, ?_, ?_, rfl⟩, fw, ?_⟩
    · have := Q.out.1; simpa using this
    · have s5 := (A.out.2.1).frame F5.out (by simp; intro x hx e; subst e; exact A.out.2.2.2.1 hx)
      exact s5.frame Q.out.2.2.2 (by simp; intro x hx; exact ⟨fun e => by subst e; exact A.out.2.2.2.1 hx, A.out.2.2.2.2.2 x hx⟩)
    · have := Q.out.2.1; simpa using this
    · simp
      rcases Q.out.2.2.1 with h | h
      · intro e; subst e; exact A.out.2.2.2.2.1 h
      · have := HB5.out.lt; omega
    · intro x hx; simp
      intro e; subst e
      rcases Q.out.2.2.1 with h | h
      · exact A.out.2.2.2.2.2 _ hx h
      · have := A.out.2.1.lt _ hx; omega
    · intro x hx
      simp at hx ⊢
      rcases hx with h | h | h
      · exact .inl (.inl h)
      · exact .inl (.inr (.inl h))
      · subst h
        rcases Q.out.2.2.1 with h | h
        · exact .inl (.inr (.inr h))
        · right; omega
end
end Go.Proofs.Ytolkmapdbilolaa

