/- A graph's calls: Add at a full graph, Drop, Edge. bail.Catch: a closure's contract goes through it. slices.IndexFunc, ContainsFunc over edges; DropNode's question. -/
import Derived.Test.YtolkmapdbilolaaMg05
import Derived.Test.YtolkmapdbilolaaMg01
namespace Go.Proofs.Ytolkmapdbilolaa
open Go.RowKit
set_option linter.unusedSimpArgs false
set_option linter.unusedVariables false
section
variable {w : World} {pb : Nat} {F : List Nat} {ns : List Nd} {es : List Ed} {given : Int}

theorem gadd_full (h : GSt w pb F ns es given) (hu : Up (ns.map (·.id))) (hn : ns.length ≤ 1000000) (he : 60 ≤ es.length) (hle : es.length ≤ 1000000) (x y : Int) (s : ByteArray) (hs : namedB s = true) (hx : x ∈ ns.map (·.id)) (hy : y ∈ ns.map (·.id)) :
    Calls Try.prog 29 #[.pointer (some ⟨pb, 0, none⟩), .int .i64 x, .string s, .int .i64 y] w fun e w' => e = .returned (.tuple #[.int .i64 0, .int .i64 5]) ∧ Frame [] w w' := by
  have hcx := ghas_any h hu hn x
  rw [decide_eq_true hx] at hcx
  have hcy := fun w' (f : Frame [] w w') => ghas_any (h.frame0 f) hu hn y
  rw [decide_eq_true hy] at hcy
  have hnm := named_any s w (by simp [namedB] at hs; omega)
  rw [hs] at hnm
  obtain ⟨an, nc, ae, ec, G, H, hb, sn, se, n1, n2, n3, rfl⟩ := h
  have HX := Lib.hid hcx
  have HY := Lib.hid hcy
  have HN := Lib.hid hnm
  have A := Lib.hid hb
  clear hcx hcy hnm hb sn se n1 n2 n3 hu hx hy hs
  go_enter Try.func29, Try.ntmps29
  go_wp2_with fail
  refine HN.out.mono ?_
  rintro e w ⟨rfl, rfl⟩
  go_wp2_with fail
  refine HX.out.mono ?_
  rintro e w2 ⟨rfl, f2⟩
  have F2 := Lib.hid f2
  clear f2
  go_wp2_with fail
  refine (HY.out _ F2.out).mono ?_
  rintro e w3 ⟨rfl, f3⟩
  have F3 := Lib.hid (F2.out.trans1 f3)
  clear f3 F2
  have hb3 := A.out.frame F3.out (by simp)
  have c1 := hb3.at 1 rfl
  have hl : (60 : Int) ≤ es.length := by omega
  clear hb3
  go_wp2_with fail
  go_ret2
  exact ⟨rfl, F3.out⟩

theorem gdrop_none (h : GSt w pb F ns es given) (hu : Up (es.map (·.tok))) (hn : es.length ≤ 1000000) (t : Int) (ht : t ∉ es.map (·.tok)) :
    Calls Try.prog 31 #[.pointer (some ⟨pb, 0, none⟩), .int .i64 t] w fun e w' => e = .returned (.int .i64 8) ∧ Frame [] w w' := by
  have hc := gplace_any h hu hn t
  rw [decide_eq_false ht] at hc
  generalize rank (es.map (·.tok)) t = r at *
  have HC := Lib.hid hc
  clear hc h hu ht
  go_enter Try.func31, Try.ntmps31
  go_wp2_with fail
  refine HC.out.mono ?_
  rintro e w3 ⟨rfl, f3⟩
  have F3 := Lib.hid f3
  clear f3
  go_wp2_with fail
  go_ret
  exact ⟨rfl, F3.out⟩

theorem rank_lt {ks : List Int} {t : Int} (hu : Up ks) (ht : t ∈ ks) : rank ks t < ks.length ∧ ks[rank ks t]? = some t := by
  obtain ⟨i, hi, he⟩ := List.getElem_of_mem ht
  have : rank ks t = i := rank_of (by omega) (fun j hj h => by rw [← he]; exact (List.pairwise_iff_getElem.1 hu) j i hj hi h) (fun j hj h => by
    rcases Nat.lt_or_ge i j with q | q
    · have := (List.pairwise_iff_getElem.1 hu) i j hi hj q; omega
    · obtain rfl : i = j := by omega
      omega)
  rw [this]
  exact ⟨hi, by rw [List.getElem?_eq_getElem hi, he]⟩

theorem gdrop_ok (h : GSt w pb F ns es given) (hu : Up (es.map (·.tok))) (hn : es.length ≤ 1000000) (t : Int) (ht : t ∈ es.map (·.tok)) :
    Calls Try.prog 31 #[.pointer (some ⟨pb, 0, none⟩), .int .i64 t] w fun e w' => e = .returned (.int .i64 0) ∧ GEnd w pb F ns (es.eraseIdx (rank (es.map (·.tok)) t)) given w' := by
  have hc := gplace_any h hu hn t
  rw [decide_eq_true ht] at hc
  have hr := (rank_lt hu ht).1
  rw [List.length_map] at hr
  generalize rank (es.map (·.tok)) t = r at *
  obtain ⟨an, nc, ae, ec, G, H, hb, sn, se, n1, n2, n3, rfl⟩ := h
  obtain ⟨k, hk⟩ : ∃ k, es.length = k + 1 := ⟨es.length - 1, by omega⟩
  rcases id se with ⟨_, h0, _⟩ | ⟨b, cap, hv, rfl, hrow⟩
  · subst h0; simp at hk
  injection hv with hv1 _ hv2
  subst hv1 hv2
  have hlen : (es.eraseIdx r).length = k := by rw [List.length_eraseIdx, if_pos hr, hk]; rfl
  rw [hk] at hb se
  have HC := Lib.hid hc
  have A := Lib.hid (And.intro hb (And.intro sn (And.intro hrow (And.intro n1 (And.intro n2 n3)))))
  have HK := Lib.hid hk
  have HL := Lib.hid hlen
  clear hc hb sn se hrow n1 n2 n3 hk hlen hu ht
  go_enter Try.func31, Try.ntmps31
  go_wp2_with fail
  refine HC.out.mono ?_
  rintro e w3 ⟨rfl, f3⟩
  have F3 := Lib.hid f3
  clear f3
  have hb3 := A.out.1.frame F3.out (by simp)
  have c1 := hb3.at 1 rfl
  have HB3 := Lib.hid hb3
  clear hb3
  go_wp2_with fail
  refine (del_edge b ec k r es w3 (by have := A.out.2.2.1.frame F3.out (by simp); rw [HK.out] at this; exact this) HK.out (by have := HK.out; omega)).mono ?_
  rintro e w4 ⟨rfl, hr4, f4⟩
  have hpb : pb ≠ b := by have := A.out.2.2.2.2.1; simpa using this
  have hb4 := HB3.out.frame f4 (by simpa using hpb)
  have z1 := hb4.frozen 1
  have q1 := hb4.at 1 rfl
  have X := Lib.hid (And.intro hb4 (And.intro hr4 f4))
  clear hb4 hr4 f4 c1
  go_wp2_with fail
  go_ret
  have fw : Frame (pb :: (G ++ [b])) w w4 := (F3.out.mono (S' := pb :: (G ++ [b])) (by simp)).trans1 (X.out.2.2.mono (by simp))
  refine ⟨rfl, pb :: (G ++ [b]), ⟨an, nc, some ⟨b, 0, none⟩, ec, G, [b], ?_, ?_, ?_, A.out.2.2.2.1, A.out.2.2.2.2.1, A.out.2.2.2.2.2, rfl⟩, fw.trans1 (Frame.setCell (S := pb :: (G ++ [b])) w4 _ _ (by simp)), fun x hx => .inl hx⟩
  · rw [HL.out]
    have := X.out.1.set 1 (.slice (some ⟨b, 0, none⟩) k ec)
    simpa using this
  · have s4 := (A.out.2.1.frame0 F3.out).frame X.out.2.2 (fun x hx hm => A.out.2.2.2.2.2 x hx hm)
    exact s4.frame (S := [pb]) (Frame.setCell w4 ⟨pb, 1, none⟩ _ (by simp)) (by simp; intro x hx e; subst e; exact A.out.2.2.2.1 hx)
  · rw [HL.out]
    refine .inr ⟨b, ec, by rw [HL.out], rfl, ?_⟩
    rw [HL.out]
    exact RowAt.set_ne X.out.2.1 _ (fun e => hpb e.symm)

/-- The edge that Edge tells. -/
def edgeOf (es : List Ed) (t : Int) : Ed × Bool := if t ∈ es.map (·.tok) then ((es[rank (es.map (·.tok)) t]?).getD ⟨0, 0, ⟨#[]⟩, 0⟩, true) else (⟨0, 0, ⟨#[]⟩, 0⟩, false)
theorem gedge_any (h : GSt w pb F ns es given) (hu : Up (es.map (·.tok))) (hn : es.length ≤ 1000000) (t : Int) :
    Calls Try.prog 30 #[.pointer (some ⟨pb, 0, none⟩), .int .i64 t] w fun e w' => e = .returned (.tuple #[.agg #[.int .i64 (edgeOf es t).1.tok, .int .i64 (edgeOf es t).1.src, .string (edgeOf es t).1.lab, .int .i64 (edgeOf es t).1.dst], .bool (edgeOf es t).2]) ∧ Frame [] w w' := by
  have hc := fun w' (f : Frame [] w w') => gplace_any (h.frame0 f) hu hn t
  by_cases ht : t ∈ es.map (·.tok)
  · rw [decide_eq_true ht] at hc
    have hr := (rank_lt hu ht).1
    rw [List.length_map] at hr
    have he : edgeOf es t = (es[rank (es.map (·.tok)) t], true) := by simp only [edgeOf, if_pos ht]; rw [List.getElem?_eq_getElem hr]; rfl
    rw [he]
    clear he ht
    generalize rank (es.map (·.tok)) t = r at *
    obtain ⟨an, nc, ae, ec, G, H, hb, sn, se, n1, n2, n3, rfl⟩ := h
    have A := Lib.hid (And.intro hb (And.intro se n2))
    have hx : es[r]? = some es[r] := List.getElem?_eq_getElem hr
    have HX := Lib.hid hx
    have HC := Lib.hid hc
    clear hc hb sn se n1 n2 n3 hu hx
    generalize es[r] = x at *
    go_enter Try.func30, Try.ntmps30
    go_wp2_with fail
    have fr : Frame [] w (w.alloc (.cells #[.int .i64 0, .int .i64 0, .string ⟨#[]⟩, .int .i64 0] 49)) := Frame.alloc _ _ _
    have bz := Blk.new w 49 #[.int .i64 0, .int .i64 0, .string ⟨#[]⟩, .int .i64 0]
    refine (HC.out _ fr).mono ?_
    rintro e w3 ⟨rfl, f3⟩
    have ft := fr.trans1 f3
    have bz1 := bz.frame f3 (by simp)
    have hb3 := A.out.1.frame ft (by simp)
    have c1 := hb3.at 1 rfl
    obtain ⟨b, cap, hv, _, _, hcells⟩ := (A.out.2.1.frame0 ft).cell ed_len HX.out
    injection hv with hv1 _ hv2
    subst hv1 hv2
    have d0 := hcells 0 _ rfl
    have d1 := hcells 1 _ rfl
    have d2 := hcells 2 _ rfl
    have d3 := hcells 3 _ rfl
    simp only [Nat.add_zero] at d0
    have z0 := bz1.at 0 rfl
    have z1 := bz1.at 1 rfl
    have z2 := bz1.at 2 rfl
    have z3 := bz1.at 3 rfl
    have y0 := bz1.frozen 0
    have y1 := bz1.frozen 1
    have y2 := bz1.frozen 2
    have y3 := bz1.frozen 3
    have B := Lib.hid bz1
    have FT := Lib.hid ft
    clear hcells hb3 bz bz1 ft f3 fr
    go_wp2_with fail
    have hz := B.out.lt
    refine bodyPost_ret (v := .tuple #[.agg #[.int .i64 x.tok, .int .i64 x.src, .string x.lab, .int .i64 x.dst], .bool true]) ?_ rfl ⟨rfl, ?_⟩
    · have b3 := (((B.out.set 0 (.int .i64 x.tok)).set 1 (.int .i64 x.src)).set 2 (.string x.lab)).set 3 (.int .i64 x.dst)
      have x0 := b3.at 0 rfl
      have x1 := b3.at 1 rfl
      have x2 := b3.at 2 rfl
      have x3 := b3.at 3 rfl
      simp [results, Try.results30, go_sem, x0, x1, x2, x3]
    · exact (((FT.out.trans (Frame.setCell (S := [w.heap.size]) _ _ _ (by simp)) (by simp)).trans (Frame.setCell (S := [w.heap.size]) _ _ _ (by simp)) (by simp)).trans (Frame.setCell (S := [w.heap.size]) _ _ _ (by simp)) (by simp)).trans (Frame.setCell (S := [w.heap.size]) _ _ _ (by simp)) (by simp)
  · rw [decide_eq_false ht] at hc
    have he : edgeOf es t = (⟨0, 0, ⟨#[]⟩, 0⟩, false) := by simp only [edgeOf, if_neg ht]
    rw [he]
    clear he ht
    generalize rank (es.map (·.tok)) t = r at *
    have HC := Lib.hid hc
    clear hc h hu
    go_enter Try.func30, Try.ntmps30
    go_wp2_with fail
    have fr : Frame [] w (w.alloc (.cells #[.int .i64 0, .int .i64 0, .string ⟨#[]⟩, .int .i64 0] 49)) := Frame.alloc _ _ _
    have bz := Blk.new w 49 #[.int .i64 0, .int .i64 0, .string ⟨#[]⟩, .int .i64 0]
    refine (HC.out _ fr).mono ?_
    rintro e w3 ⟨rfl, f3⟩
    have ft := fr.trans1 f3
    have bz1 := bz.frame f3 (by simp)
    have z0 := bz1.at 0 rfl
    have z1 := bz1.at 1 rfl
    have z2 := bz1.at 2 rfl
    have z3 := bz1.at 3 rfl
    have y0 := bz1.frozen 0
    have y1 := bz1.frozen 1
    have y2 := bz1.frozen 2
    have y3 := bz1.frozen 3
    have B := Lib.hid bz1
    have FT := Lib.hid ft
    clear bz bz1 ft f3 fr
    go_wp2_with fail
    refine bodyPost_ret (v := .tuple #[.agg #[.int .i64 0, .int .i64 0, .string ⟨#[]⟩, .int .i64 0], .bool false]) ?_ rfl ⟨rfl, ?_⟩
    · have b3 := (((B.out.set 0 (.int .i64 0)).set 1 (.int .i64 0)).set 2 (.string ⟨#[]⟩)).set 3 (.int .i64 0)
      have x0 := b3.at 0 rfl
      have x1 := b3.at 1 rfl
      have x2 := b3.at 2 rfl
      have x3 := b3.at 3 rfl
      simp [results, Try.results30, go_sem, x0, x1, x2, x3]
    · exact (((FT.out.trans (Frame.setCell (S := [w.heap.size]) _ _ _ (by simp)) (by simp)).trans (Frame.setCell (S := [w.heap.size]) _ _ _ (by simp)) (by simp)).trans (Frame.setCell (S := [w.heap.size]) _ _ _ (by simp)) (by simp)).trans (Frame.setCell (S := [w.heap.size]) _ _ _ (by simp)) (by simp)
end
end Go.Proofs.Ytolkmapdbilolaa

namespace Go.Proofs.Ytolkmapdbilolaa
open Go.RowKit
set_option linter.unusedSimpArgs false
set_option linter.unusedVariables false

theorem run_makeFunc (fn : Fn) (first cap : Array Value) (w : World) : (Instr.makeFunc fn first cap).run Try.prog w = .ok (.func fn first cap) w := rfl

theorem eqIn_func_nil (d : Nat) (fn : Fn) (first cap : Array Value) (w : World) : (Op.equalIn (d + 1) 1 (.func fn first cap) .nilFunc).run Try.prog w = .ok false w := by
  simp [Op.equalIn, go_sem]
theorem run_neq_func_nil (fn : Fn) (first cap : Array Value) (w : World) : (binOp .neq 1 (.func fn first cap) .nilFunc).run Try.prog w = .ok (.bool true) w := by
  simp only [binOp]
  simp [Op.equal, Op.maxDepth, eqIn_func_nil 9999]

/-- Function K has a body of its own. -/
def Entered (K : Nat) : Prop := ∀ (args : Array Value) (w : World), (callFunc K args).run Try.prog w = .ok (.enter K args) w

/-- A call of a function value. -/
theorem call_any (K : Nat) (caps : Array Value) (w : World) (R : Ending → World → Prop) (hres : ∀ e w', R e w' → e = .returned (.tuple #[]) ∨ ∃ c, e = .panicked c)
    (hK : Entered K) (h : Calls Try.prog K caps w R) : Calls Try.prog 142 #[.func (.func K) #[] caps] w R := by
  have hcall := hK caps
  have hne := run_neq_func_nil (.func K) #[] caps
  have H := Lib.hid h
  have HR := Lib.hid hres
  clear h hres hK
  go_enter Try.func142, Try.ntmps142
  go_wp2_with fail
  refine H.out.mono ?_
  intro e w' hr
  rcases HR.out e w' hr with rfl | ⟨c, rfl⟩
  · go_wp2_with fail
    go_end0
    exact hr
  · exact ⟨rfl, hr⟩

theorem bail_isNil (x : Value) (w : World) : (binOp .eql 20 (.iface 180 x) .nilIface).run Try.prog w = .ok (.bool false) w := run_eql_held_nil w 20 180 x (by kernel_rfl)
theorem bail_assert (x : Value) (w : World) : (Instr.typeAssert (.iface 180 x) 20 180 true).run Try.prog w = .ok (.tuple #[x, .bool true]) w := by
  simp [Instr.typeAssert, go_sem]

/-- The deferred closure of Catch, of a frame that panics with a bail: it tells what was left with. -/
theorem catch1_bail (c1 c2 nb : Nat) (code at_ v1 v2 : Int) (older : List PanicEntry) (w : World) (h1 : Blk w c1 25 #[.int .i64 v1]) (h2 : Blk w c2 3 #[.int .i64 v2])
    (hb : Blk w nb 182 #[.int .i64 code, .int .i64 at_]) (hne : c1 ≠ c2) :
    CallsD Try.prog 141 #[.pointer (some ⟨c1, 0, none⟩), .pointer (some ⟨c2, 0, none⟩)] (.panicking ({ v := .iface 180 (.pointer (some ⟨nb, 0, none⟩)), recovered := false } :: older)) w fun e u' w' =>
      e = .returned (.tuple #[]) ∧ u' = .panicking ({ v := .iface 180 (.pointer (some ⟨nb, 0, none⟩)), recovered := true } :: older) ∧
      Blk w' c1 25 #[.int .i64 code] ∧ Blk w' c2 3 #[.int .i64 at_] ∧ Frame [c1, c2] w w' := by
  have d1 := h1.at 0 rfl
  have e1 := h1.frozen 0
  have d2 := h2.at 0 rfl
  have e2 := h2.frozen 0
  have b0 := hb.at 0 rfl
  have b1 := hb.at 1 rfl
  refine callsD_of_wpS Try.func141 rfl fun c₀ cs hu => ?_
  simp only [Try.ntmps141, List.size_toArray, List.length_cons, List.length_nil, Nat.reduceAdd, Nat.reduceSub, Array.replicate_succ, Array.replicate_zero, List.push_toArray, List.append_toArray, List.nil_append, List.cons_append]
  apply wpS_seq
  apply wpS_region
  simp [wpOpsS, go_sem, recoverD, hu, Exit.thenS]
  refine wpS_of_wp ?_
  clear hu
  have q1 := bail_isNil (.pointer (some ⟨nb, 0, none⟩))
  have q2 := bail_assert (.pointer (some ⟨nb, 0, none⟩))
  go_wp2_with fail
  go_region
  all_goals
    go_wp2_with fail
    refine ⟨rfl, _, rfl, .tuple #[], results_none rfl _ _ _, rfl, rfl, ?_, ?_, ?_⟩
    · exact ((h1.drew.set 0 _).set_ne _ hne)
    · exact ((h2.drew.set_ne _ hne.symm).set 0 _)
    · exact ((Frame.drew _ _).trans1 (Frame.setCell _ _ _ (by simp))).trans1 (Frame.setCell _ _ _ (by simp))

/-- .. of a frame that returns: nothing. -/
theorem catch1_idle (c1 c2 : Nat) (w : World) :
    CallsD Try.prog 141 #[.pointer (some ⟨c1, 0, none⟩), .pointer (some ⟨c2, 0, none⟩)] .returning w fun e u' w' => e = .returned (.tuple #[]) ∧ u' = .returning ∧ w' = w := by
  refine callsD_of_wpS Try.func141 rfl fun c₀ cs hu => ?_
  simp only [Try.ntmps141, List.size_toArray, List.length_cons, List.length_nil, Nat.reduceAdd, Nat.reduceSub, Array.replicate_succ, Array.replicate_zero, List.push_toArray, List.append_toArray, List.nil_append, List.cons_append]
  apply wpS_seq
  apply wpS_region
  simp [wpOpsS, go_sem, recoverD, hu, Exit.thenS]
  refine wpS_of_wp ?_
  go_wp2_with fail
  refine ⟨rfl, .returning, ?_, .tuple #[], results_none rfl _ _ _, rfl, rfl, rfl⟩
  cases c₀
  simp_all

/-- Catch, of a closure that comes back. R: what it leaves, which Catch's own two variables do not turn. -/
theorem catch_ret (K : Nat) (caps : Array Value) (w : World) (R : World → Prop) (S : List Nat) (hK : Entered K) (hS : ∀ x ∈ S, x < w.heap.size)
    (h : ∀ w1, Frame [] w w1 → w.heap.size + 2 = w1.heap.size → Calls Try.prog K caps w1 fun e w' => e = .returned (.tuple #[]) ∧ Frame S w1 w' ∧ ∀ w'', Frame [w.heap.size, w.heap.size + 1] w' w'' → R w'') :
    Calls Try.prog 109 #[.func (.func K) #[] caps] w fun e w' => e = .returned (.tuple #[.int .i64 0, .int .i64 0]) ∧ R w' := by
  have hmf := run_makeFunc
  have H := Lib.hid h
  have HS := Lib.hid hS
  clear h hS
  go_enter_defers Try.func109, Try.ntmps109
  go_wp2_with fail
  have k1 : Blk ((w.alloc (.cells #[.int .i64 0] 25)).alloc (.cells #[.int .i64 0] 3)) w.heap.size 25 #[.int .i64 0] := (Blk.new _ _ _).alloc _
  have k2 : Blk ((w.alloc (.cells #[.int .i64 0] 25)).alloc (.cells #[.int .i64 0] 3)) (w.heap.size + 1) 3 #[.int .i64 0] := by
    have := Blk.new (w.alloc (.cells #[.int .i64 0] 25)) 3 #[.int .i64 0]
    simpa using this
  have fr0 := (Frame.alloc [] w (.cells #[.int .i64 0] 25)).trans1 (Frame.alloc [] _ (.cells #[.int .i64 0] 3))
  refine (call_any K caps _ _ ?_ hK (H.out _ fr0 (by simp))).mono ?_
  · rintro e w' ⟨rfl, _⟩; exact .inl rfl
  rintro e w1 ⟨rfl, f1, hR⟩
  have j1 := k1.frame f1 (fun hm => by have := HS.out _ hm; omega)
  have j2 := k2.frame f1 (fun hm => by have := HS.out _ hm; omega)
  have d1 := j1.at 0 rfl
  have d2 := j2.at 0 rfl
  have e1 := j1.frozen 0
  have e2 := j2.frozen 0
  have HRR := Lib.hid hR
  clear hR fr0
  go_wp2_with fail
  refine leaves_cons (f := 141) (args := #[.pointer (some ⟨w.heap.size, 0, none⟩), .pointer (some ⟨w.heap.size + 1, 0, none⟩)]) (by simp) (by simp [go_sem]) ?_
  refine (catch1_idle _ _ _).mono ?_
  rintro e u' w'' ⟨rfl, rfl, rfl⟩
  have m1 := ((j1.set 0 (.int .i64 0)).set_ne (a := ⟨w.heap.size + 1, 0, none⟩) (.int .i64 0) (by simp)).at 0 rfl
  have m2 := ((j2.set_ne (a := ⟨w.heap.size, 0, none⟩) (.int .i64 0) (by simp)).set 0 (.int .i64 0)).at 0 rfl
  simp [Leaves, settle, results, Try.results109, go_sem, m1, m2]
  exact HRR.out _ ((Frame.setCell _ _ _ (by simp)).trans1 (Frame.setCell _ _ _ (by simp)))

/-- Catch, of a closure that leaves by a bail. -/
theorem catch_bail (K : Nat) (caps : Array Value) (w : World) (R : World → Prop) (S : List Nat) (code at_ : Int) (hK : Entered K) (hS : ∀ x ∈ S, x < w.heap.size)
    (h : ∀ w1, Frame [] w w1 → w.heap.size + 2 = w1.heap.size → Calls Try.prog K caps w1 fun e w' => ∃ chain, e = .panicked chain ∧ bailing w1 code at_ chain w' ∧ Frame S w1 w' ∧ ∀ w'', Frame [w.heap.size, w.heap.size + 1] w' w'' → R w'') :
    Calls Try.prog 109 #[.func (.func K) #[] caps] w fun e w' => e = .returned (.tuple #[.int .i64 code, .int .i64 at_]) ∧ R w' := by
  have hmf := run_makeFunc
  have H := Lib.hid h
  have HS := Lib.hid hS
  clear h hS
  go_enter_defers Try.func109, Try.ntmps109
  go_wp2_with fail
  have k1 : Blk ((w.alloc (.cells #[.int .i64 0] 25)).alloc (.cells #[.int .i64 0] 3)) w.heap.size 25 #[.int .i64 0] := (Blk.new _ _ _).alloc _
  have k2 : Blk ((w.alloc (.cells #[.int .i64 0] 25)).alloc (.cells #[.int .i64 0] 3)) (w.heap.size + 1) 3 #[.int .i64 0] := by
    have := Blk.new (w.alloc (.cells #[.int .i64 0] 25)) 3 #[.int .i64 0]
    simpa using this
  have fr0 := (Frame.alloc [] w (.cells #[.int .i64 0] 25)).trans1 (Frame.alloc [] _ (.cells #[.int .i64 0] 3))
  refine (call_any K caps _ _ ?_ hK (H.out _ fr0 (by simp))).mono ?_
  · rintro e w' ⟨c, rfl, _⟩; exact .inr ⟨c, rfl⟩
  rintro e w1 ⟨chain, rfl, ⟨nb, rfl, hnb, hb⟩, f1, hR⟩
  have j1 := k1.frame f1 (fun hm => by have := HS.out _ hm; omega)
  have j2 := k2.frame f1 (fun hm => by have := HS.out _ hm; omega)
  have HRR := Lib.hid hR
  clear hR fr0
  refine leaves_cons (f := 141) (args := #[.pointer (some ⟨w.heap.size, 0, none⟩), .pointer (some ⟨w.heap.size + 1, 0, none⟩)]) (by simp) (by simp [go_sem]) ?_
  refine (catch1_bail _ _ nb code at_ 0 0 [] _ j1 j2 hb (by simp)).mono ?_
  rintro e u' w'' ⟨rfl, rfl, m1, m2, f2⟩
  have d1 := m1.at 0 rfl
  have d2 := m2.at 0 rfl
  simp [Leaves, settle, results, Try.results109, go_sem, d1, d2]
  exact HRR.out _ f2

end Go.Proofs.Ytolkmapdbilolaa

namespace Go.Proofs.Ytolkmapdbilolaa
open Go.RowKit
set_option linter.unusedSimpArgs false
set_option linter.unusedVariables false

/-- A function value that tells a Bool of an edge, and writes nothing that was there. -/
def TellsE (w : World) (K : Nat) (caps : Array Value) (p : Ed → Bool) : Prop :=
  Entered K ∧ ∀ w', Frame [] w w' → ∀ e : Ed, Calls Try.prog K (#[.agg #[.int .i64 e.tok, .int .i64 e.src, .string e.lab, .int .i64 e.dst]] ++ caps) w' fun x w'' => x = .returned (.bool (p e)) ∧ Frame [] w' w''

def idxE (p : Ed → Bool) (xs : List Ed) : Int := match xs.findIdx? p with | some k => k | none => -1
theorem idxE_at {p : Ed → Bool} {xs : List Ed} {k : Nat} (hk : k < xs.length) (h : ∀ j (hj : j < k), p xs[j] = false) (hp : p xs[k] = true) : idxE p xs = k := by
  have : xs.findIdx? p = some k := by
    rw [List.findIdx?_eq_some_iff_getElem]
    exact ⟨hk, hp, fun j hj => by simp [h j hj]⟩
  simp [idxE, this]
theorem idxE_none {p : Ed → Bool} {xs : List Ed} (h : ∀ j (hj : j < xs.length), p xs[j] = false) : idxE p xs = -1 := by
  have : xs.findIdx? p = none := by
    rw [List.findIdx?_eq_none_iff]
    intro x hx
    obtain ⟨j, hj, rfl⟩ := List.getElem_of_mem hx
    exact h j hj
  simp [idxE, this]

theorem indexFunc_edge (a : Option Addr) (cap : Nat) (xs : List Ed) (G : List Nat) (K : Nat) (caps : Array Value) (p : Ed → Bool) (w : World) (hx : Sl w 49 4 Ed.cs (.slice a xs.length cap) xs G) (hl : xs.length ≤ 1073741824) (hp : TellsE w K caps p) :
    Calls Try.prog 123 #[.slice a xs.length cap, .func (.func K) #[] caps] w fun e w' => e = .returned (.int .i64 (idxE p xs)) ∧ Frame [] w w' := by
  obtain ⟨hK, hP⟩ := hp
  have HX := Lib.hid hx
  have HP := Lib.hid hP
  clear hx hP
  go_enter Try.func123, Try.ntmps123
  go_wp2_with fail
  go_loopw [8] (fun i wr => ∃ k : Nat, k ≤ xs.length ∧ i = .int .i64 k ∧ Frame [] w wr ∧ Hid (∀ j (hj : j < xs.length), j < k → p xs[j] = false)) (fun i _ => xs.length - (intOf i).toNat)
  case atStart => exact ⟨0, Nat.zero_le _, rfl, Frame.refl _ _, fun j hj h => by omega⟩
  case round =>
    obtain ⟨k, hk, rfl, hf, hq⟩ := hrel
    by_cases hlt : k < xs.length
    · obtain ⟨b, cap', e9, _, _, hc⟩ := (HX.out.frame0 hf).cell ed_len (show xs[k]? = some xs[k] by simp [hlt])
      injection e9 with e91 _ e93
      subst e91 e93
      have d0 := hc 0 _ rfl
      have d1 := hc 1 _ rfl
      have d2 := hc 2 _ rfl
      have d3 := hc 3 _ rfl
      simp only [Nat.add_zero] at d0
      have hcall := hK (#[.agg #[.int .i64 xs[k].tok, .int .i64 xs[k].src, .string xs[k].lab, .int .i64 xs[k].dst]] ++ caps)
      clear hc
      go_wp2_with fail
      refine (HP.out wr hf xs[k]).mono ?_
      rintro e w2 ⟨rfl, f2⟩
      cases hpk : p xs[k] with
      | true =>
        go_wp2_with fail
        go_ret
        exact ⟨by rw [idxE_at hlt (fun j hj => hq.out j (by omega) hj) hpk]; rfl, hf.trans0 f2⟩
      | false =>
        go_wp2_with fail
        go_roundw
        case rel => exact ⟨k + 1, by omega, by go_num, hf.trans0 f2, fun j hj hjk => by
          rcases Nat.lt_or_ge j k with h | h
          · exact hq.out j hj h
          · have : j = k := by omega
            subst this; exact hpk⟩
        case measure => simp [intOf]; omega
    · go_wp2_with fail
      go_ret
      exact ⟨by rw [idxE_none (fun j hj => hq.out j hj (by omega))]; rfl, hf⟩

theorem containsFunc_edge (a : Option Addr) (cap : Nat) (xs : List Ed) (G : List Nat) (K : Nat) (caps : Array Value) (p : Ed → Bool) (w : World) (hx : Sl w 49 4 Ed.cs (.slice a xs.length cap) xs G) (hl : xs.length ≤ 1073741824) (hp : TellsE w K caps p) :
    Calls Try.prog 72 #[.slice a xs.length cap, .func (.func K) #[] caps] w fun e w' => e = .returned (.bool (xs.any p)) ∧ Frame [] w w' := by
  have H := Lib.hid (indexFunc_edge a cap xs G K caps p w hx hl hp)
  have hi : Hid (decide (0 ≤ idxE p xs) = xs.any p) := by
    show decide (0 ≤ idxE p xs) = xs.any p
    unfold idxE
    cases h : xs.findIdx? p with
    | none => rw [List.findIdx?_eq_none_iff] at h; simp; exact h
    | some k =>
      rw [List.findIdx?_eq_some_iff_getElem] at h
      obtain ⟨h1, h2, _⟩ := h
      have : xs.any p = true := by rw [List.any_eq_true]; exact ⟨xs[k], List.getElem_mem h1, h2⟩
      rw [this]; simp
  generalize idxE p xs = ix at *
  clear hx hp
  go_enter Try.func72, Try.ntmps72
  go_wp2_with fail
  refine H.out.mono ?_
  rintro e w' ⟨rfl, f⟩
  go_wp2_with fail
  go_ret
  exact ⟨by rw [hi.out]; rfl, f⟩

/-- Does an edge begin or end at a node? -/
def meets (t : Int) (e : Ed) : Bool := decide (e.src = t) || decide (e.dst = t)
theorem meets_fn (t : Int) (e : Ed) (cb : Nat) (w : World) (hc : w.cell? ⟨cb, 0, none⟩ = some (.int .i64 t)) :
    Calls Try.prog 73 #[.agg #[.int .i64 e.tok, .int .i64 e.src, .string e.lab, .int .i64 e.dst], .pointer (some ⟨cb, 0, none⟩)] w fun x w' => x = .returned (.bool (meets t e)) ∧ Frame [] w w' := by
  have hcb := World.block_lt_of_cell? w _ hc
  have hcn : ∀ o, (w.alloc o).cell? ⟨cb, 0, none⟩ = some (.int .i64 t) := fun o => (Frame.alloc [] w o).cell hc (by simp)
  clear hc
  by_cases h1 : e.src = t
  · have e1 : meets t e = true := by simp [meets, h1]
    have h2 : (e.src == t) = true := by simpa using h1
    rw [e1]
    clear e1 h1
    go_enter Try.func73, Try.ntmps73
    go_wp2_with fail
    go_ret
    exact ⟨rfl, Frame.alloc _ _ _⟩
  · have h2 : (e.src == t) = false := by simpa using h1
    by_cases h3 : e.dst = t
    · have e1 : meets t e = true := by simp [meets, h3]
      have h4 : (e.dst == t) = true := by simpa using h3
      rw [e1]
      clear e1 h1 h3
      go_enter Try.func73, Try.ntmps73
      go_wp2_with fail
      go_ret
      exact ⟨rfl, Frame.alloc _ _ _⟩
    · have e1 : meets t e = false := by simp [meets, h1, h3]
      have h4 : (e.dst == t) = false := by simpa using h3
      rw [e1]
      clear e1 h1 h3
      go_enter Try.func73, Try.ntmps73
      go_wp2_with fail
      go_ret
      exact ⟨rfl, Frame.alloc _ _ _⟩
end Go.Proofs.Ytolkmapdbilolaa

