/- The reference's Edge, Subset of one, Without. circ: made, by Catch. slices.IndexFunc, ContainsFunc over []int. -/
import Derived.Test.YtolkmapdbilolaaMg19
import Derived.Test.YtolkmapdbilolaaMg07
import Derived.Test.YtolkmapdbilolaaMg06
namespace Go.Proofs.Ytolkmapdbilolaa
open Go.RowKit
set_option linter.unusedSimpArgs false
set_option linter.unusedVariables false

/-- The edge with a token. -/
def edOf (es : List Ed) (t : Int) : Option Ed := es.find? fun e => decide (e.tok = t)
def edV : Option Ed → Value
  | some e => .tuple #[.agg #[.int .i64 e.tok, .int .i64 e.src, .string e.lab, .int .i64 e.dst], .bool true]
  | none => .tuple #[.agg #[.int .i64 0, .int .i64 0, .string ⟨#[]⟩, .int .i64 0], .bool false]
theorem edOf_at {es : List Ed} {t : Int} {k : Nat} {e : Ed} (hk : es[k]? = some e) (h : e.tok = t) (hj : ∀ j f, j < k → es[j]? = some f → f.tok ≠ t) : edOf es t = some e := by
  unfold edOf
  rw [List.find?_eq_some_iff_getElem]
  obtain ⟨h1, h2⟩ := List.getElem?_eq_some_iff.1 hk
  exact ⟨by simpa using h, k, h1, h2, fun j hjk => by have := hj j es[j] hjk (by simp); simpa using this⟩
theorem edOf_none {es : List Ed} {t : Int} (hj : ∀ j f, j < es.length → es[j]? = some f → f.tok ≠ t) : edOf es t = none := by
  unfold edOf
  rw [List.find?_eq_none]
  intro f hf
  obtain ⟨j, hjl, rfl⟩ := List.getElem_of_mem hf
  have := hj j es[j] hjl (by simp)
  simpa using this
set_option maxHeartbeats 1000000 in
theorem redge_any (U : Nat → Prop) (an ae : Option Addr) (nn nc ec : Nat) (es : List Ed) (nx t : Int) (w : World) (h : RF U w 4 Ed.cs ae es) (hl : es.length ≤ 1000000) :
    Calls Try.prog 46 #[.agg #[.slice an nn nc, .slice ae es.length ec, .int .i64 nx], .int .i64 t] w fun e w' => e = .returned (edV (edOf es t)) ∧ Frame [] w w' := by
  have H := Lib.hid h
  clear h
  go_enter Try.func46, Try.ntmps46
  go_wp2_with fail
  have fr : Frame [] w ((w.alloc (.cells #[.slice an nn nc, .slice ae es.length ec, .int .i64 nx] 55)).alloc (.cells #[.int .i64 0, .int .i64 0, .string ⟨#[]⟩, .int .i64 0] 49)) := (Frame.alloc _ _ _).trans1 (Frame.alloc _ _ _)
  have b0 := (Blk.new w 55 #[.slice an nn nc, .slice ae es.length ec, .int .i64 nx]).alloc (.cells #[.int .i64 0, .int .i64 0, .string ⟨#[]⟩, .int .i64 0] 49)
  have b1 := Blk.new (w.alloc (.cells #[.slice an nn nc, .slice ae es.length ec, .int .i64 nx] 55)) 49 #[.int .i64 0, .int .i64 0, .string ⟨#[]⟩, .int .i64 0]
  simp only [World.size_alloc] at b1
  generalize (w.alloc (.cells #[.slice an nn nc, .slice ae es.length ec, .int .i64 nx] 55)).alloc (.cells #[.int .i64 0, .int .i64 0, .string ⟨#[]⟩, .int .i64 0] 49) = wa at *
  have B := Lib.hid b0
  have B1 := Lib.hid b1
  have FR := Lib.hid fr
  clear b0 b1 fr
  go_loopw [6] (fun i wr => ∃ k : Nat, k ≤ es.length ∧ i = .int .i64 k ∧ Hid (Frame [] wa wr ∧ ∀ j m, j < k → es[j]? = some m → m.tok ≠ t)) (fun i _ => es.length - (intOf i).toNat)
  case atStart => exact ⟨0, Nat.zero_le _, rfl, Frame.refl _ _, fun j _ h => by omega⟩
  case round =>
    obtain ⟨k, hk, rfl, hR⟩ := hrel
    have z1 := (B.out.frame hR.out.1 (by simp)).at 1 rfl
    have hb9 := B1.out.frame hR.out.1 (by simp)
    have y0 := hb9.at 0 rfl
    have y1 := hb9.at 1 rfl
    have y2 := hb9.at 2 rfl
    have y3 := hb9.at 3 rfl
    have r0 := hb9.frozen 0
    have r1 := hb9.frozen 1
    have r2 := hb9.frozen 2
    have r3 := hb9.frozen 3
    have B9 := Lib.hid hb9
    clear hb9
    by_cases hlt : k < es.length
    · have g1 : es[k]? = some es[k] := by simp [hlt]
      obtain ⟨b, off, rfl, -, q⟩ := ((H.out.frame0 FR.out).frame0 hR.out.1) k _ g1
      have d0 := q 0 _ rfl
      have d1 := q 1 _ rfl
      have d2 := q 2 _ rfl
      have d3 := q 3 _ rfl
      simp only [Nat.add_zero] at d0
      generalize es[k] = n at *
      obtain ⟨tk, sr, lb, ds⟩ := n
      simp only at d0 d1 d2 d3
      have G1 := Lib.hid g1
      clear g1 q
      by_cases hit : tk = t
      · have hb : (tk == t) = true := by simp [hit]
        have HX := Lib.hid hit
        clear hit
        go_wp2_with fail
        have hE := edOf_at G1.out HX.out hR.out.2
        refine bodyPost_ret (v := .tuple #[.agg #[.int .i64 tk, .int .i64 sr, .string lb, .int .i64 ds], .bool true]) ?_ rfl ⟨by rw [hE]; rfl, ?_⟩
        · have b3 := (((B9.out.set 0 (.int .i64 tk)).set 1 (.int .i64 sr)).set 2 (.string lb)).set 3 (.int .i64 ds)
          have x0 := b3.at 0 rfl
          have x1 := b3.at 1 rfl
          have x2 := b3.at 2 rfl
          have x3 := b3.at 3 rfl
          simp [results, Try.results46, go_sem, x0, x1, x2, x3]
        · exact ((((FR.out.trans1 hR.out.1).trans (Frame.setCell (S := [w.heap.size + 1]) _ _ _ (by simp)) (by simp)).trans (Frame.setCell (S := [w.heap.size + 1]) _ _ _ (by simp)) (by simp)).trans (Frame.setCell (S := [w.heap.size + 1]) _ _ _ (by simp)) (by simp)).trans (Frame.setCell (S := [w.heap.size + 1]) _ _ _ (by simp)) (by simp)
      · have hb : (tk == t) = false := by simp [hit]
        have HX := Lib.hid hit
        clear hit
        go_wp2_with fail
        go_roundw
        case rel => exact ⟨k + 1, by omega, by first | rfl | go_num, Lib.hid ⟨hR.out.1.trans1 (by (repeat first | assumption | exact Frame.refl _ _ | refine Frame.trans1 ?_ (Frame.alloc _ _ _) | refine Frame.trans1 ?_ (Frame.drew _ _) | refine Frame.trans1 ?_ (Frame.drewN _ _ _))), fun j m hj hm => by
          rcases Nat.lt_or_ge j k with h | h
          · exact hR.out.2 j m h hm
          · obtain rfl : j = k := by omega
            have := G1.out.symm.trans hm
            simp at this
            subst this
            exact HX.out⟩⟩
        case measure => first | (simp [intOf]; done) | (simp [intOf]; omega)
    · obtain rfl : k = es.length := by omega
      go_wp2_with fail
      have hE := edOf_none hR.out.2
      refine bodyPost_ret (v := .tuple #[.agg #[.int .i64 0, .int .i64 0, .string ⟨#[]⟩, .int .i64 0], .bool false]) ?_ rfl ⟨by rw [hE]; rfl, ?_⟩
      · have b3 := (((B9.out.set 0 (.int .i64 0)).set 1 (.int .i64 0)).set 2 (.string ⟨#[]⟩)).set 3 (.int .i64 0)
        have x0 := b3.at 0 rfl
        have x1 := b3.at 1 rfl
        have x2 := b3.at 2 rfl
        have x3 := b3.at 3 rfl
        simp [results, Try.results46, go_sem, x0, x1, x2, x3]
      · exact ((((FR.out.trans1 hR.out.1).trans (Frame.setCell (S := [w.heap.size + 1]) _ _ _ (by simp)) (by simp)).trans (Frame.setCell (S := [w.heap.size + 1]) _ _ _ (by simp)) (by simp)).trans (Frame.setCell (S := [w.heap.size + 1]) _ _ _ (by simp)) (by simp)).trans (Frame.setCell (S := [w.heap.size + 1]) _ _ _ (by simp)) (by simp)
theorem edOf_edgeOf {es : List Ed} (hu : Up (es.map (·.tok))) (t : Int) : edV (edOf es t) = .tuple #[.agg #[.int .i64 (edgeOf es t).1.tok, .int .i64 (edgeOf es t).1.src, .string (edgeOf es t).1.lab, .int .i64 (edgeOf es t).1.dst], .bool (edgeOf es t).2] := by
  unfold edgeOf
  by_cases ht : t ∈ es.map (·.tok)
  · obtain ⟨h1, h2⟩ := rank_lt hu ht
    rw [List.length_map] at h1
    rw [if_pos ht]
    generalize rank (es.map (·.tok)) t = i at *
    rw [List.getElem?_map, List.getElem?_eq_getElem h1] at h2
    have h3 : es[i].tok = t := by simpa using h2
    have h4 := edOf_at (es := es) (t := t) (k := i) (e := es[i]) (by simp) h3 (fun j f hj hf => by
      obtain ⟨hjl, rfl⟩ := List.getElem?_eq_some_iff.1 hf
      have := List.pairwise_iff_getElem.1 hu j i (by simpa using hjl) (by simpa using h1) hj
      simp at this
      omega)
    rw [h4, List.getElem?_eq_getElem h1]
    rfl
  · rw [if_neg ht]
    have h4 := edOf_none (es := es) (t := t) (fun j f hj hf => fun e => ht (List.mem_map.2 ⟨f, List.mem_of_getElem? hf, e⟩))
    rw [h4]
    rfl
theorem edOf_some {es : List Ed} {t : Int} : (∃ e, edOf es t = some e) ↔ t ∈ es.map (·.tok) := by
  constructor
  · rintro ⟨e, he⟩
    unfold edOf at he
    have h1 := List.find?_some he
    have h2 := List.mem_of_find?_eq_some he
    exact List.mem_map.2 ⟨e, h2, by simpa using h1⟩
  · intro h
    obtain ⟨e, he, ht⟩ := List.mem_map.1 h
    cases hq : edOf es t with
    | some e => exact ⟨e, rfl⟩
    | none =>
      unfold edOf at hq
      rw [List.find?_eq_none] at hq
      have := hq e he
      simp [ht] at this
end Go.Proofs.Ytolkmapdbilolaa

namespace Go.Proofs.Ytolkmapdbilolaa
open Go.RowKit
set_option linter.unusedSimpArgs false
set_option linter.unusedVariables false

theorem entered_made1 : Entered 110 := by intro args w; simp [go_sem]

/-- The closure, where gate comes back. -/
theorem made1_ret (sb gb kb pb : Nat) (x y z : Int) (k : Int) (w : World) (R : World → Prop) (F : List Nat) (hs : Blk w sb 23 #[.pointer (some ⟨pb, 0, none⟩)]) (hg : Blk w gb 39 #[.int .i64 x, .int .i64 y, .int .i64 z]) (hk : Blk w kb 3 #[.int .i64 0])
    (hF : kb ∉ F) (h : Calls Try.prog 111 #[.pointer (some ⟨pb, 0, none⟩), .agg #[.int .i64 x, .int .i64 y, .int .i64 z]] w fun e w' => e = .returned (.int .i64 k) ∧ Frame F w w' ∧ R w') :
    Calls Try.prog 110 #[.pointer (some ⟨sb, 0, none⟩), .pointer (some ⟨gb, 0, none⟩), .pointer (some ⟨kb, 0, none⟩)] w fun e w' => e = .returned (.tuple #[]) ∧ ∃ w1, Frame F w w1 ∧ R w1 ∧ Frame [kb] w1 w' ∧ Blk w' kb 3 #[.int .i64 k] := by
  have s0 := hs.at 0 rfl
  have g0 := hg.at 0 rfl
  have g1 := hg.at 1 rfl
  have g2 := hg.at 2 rfl
  have H := Lib.hid h
  clear h
  go_enter Try.func110, Try.ntmps110
  go_wp2_with fail
  refine H.out.mono ?_
  rintro e w1 ⟨rfl, f1, hr⟩
  have k1 := hk.frame f1 hF
  have c1 := k1.at 0 rfl
  have c2 := k1.frozen 0
  have HR := Lib.hid hr
  clear hr
  go_wp2_with fail
  go_end0
  exact ⟨rfl, w1, f1, HR.out, Frame.setCell _ _ _ (by simp), k1.set 0 _⟩

theorem made1_bail (sb gb kb pb : Nat) (x y z : Int) (w : World) (hs : Blk w sb 23 #[.pointer (some ⟨pb, 0, none⟩)]) (hg : Blk w gb 39 #[.int .i64 x, .int .i64 y, .int .i64 z])
    (h : Calls Try.prog 111 #[.pointer (some ⟨pb, 0, none⟩), .agg #[.int .i64 x, .int .i64 y, .int .i64 z]] w fun e w' => ∃ chain, e = .panicked chain ∧ bailing w 10 1 chain w' ∧ Frame [] w w') :
    Calls Try.prog 110 #[.pointer (some ⟨sb, 0, none⟩), .pointer (some ⟨gb, 0, none⟩), .pointer (some ⟨kb, 0, none⟩)] w fun e w' => ∃ chain, e = .panicked chain ∧ bailing w 10 1 chain w' ∧ Frame [] w w' := by
  have s0 := hs.at 0 rfl
  have g0 := hg.at 0 rfl
  have g1 := hg.at 1 rfl
  have g2 := hg.at 2 rfl
  have H := Lib.hid h
  clear h
  go_enter Try.func110, Try.ntmps110
  go_wp2_with fail
  refine H.out.mono ?_
  rintro e w1 ⟨chain, rfl, h1, h2⟩
  exact ⟨rfl, chain, rfl, h1, h2⟩

/-- What made comes to: the gate's number and the error; the gates; what is left. -/
def put (g : Gt) (l : List Gt) (left : Int) : (Int × Int) × List Gt × Int :=
  match find g l 0 with
  | some k => ((k, 0), l, left)
  | none => if 1 ≤ left then ((l.length, 0), l ++ [g], left - 1) else ((0, 10), l, left)

/-- A store, at the end of a call. -/
def StEnd (w : World) (pb : Nat) (F : List Nat) (l : List Gt) (left : Int) (w' : World) : Prop := ∃ F', St w' pb F' l left ∧ Frame F w w' ∧ Grow F F' w

theorem made_of (pb : Nat) (F : List Nat) (l l' : List Gt) (left left' k : Int) (x y z : Int) (w : World) (h : St w pb F l left)
    (hc : ∀ w1 F1, St w1 pb F1 l left → Calls Try.prog 111 #[.pointer (some ⟨pb, 0, none⟩), .agg #[.int .i64 x, .int .i64 y, .int .i64 z]] w1 fun e w' => e = .returned (.int .i64 k) ∧ StEnd w1 pb F1 l' left' w') :
    Calls Try.prog 61 #[.pointer (some ⟨pb, 0, none⟩), .agg #[.int .i64 x, .int .i64 y, .int .i64 z]] w fun e w' => e = .returned (.tuple #[.int .i64 k, .int .i64 0]) ∧ StEnd w pb F l' left' w' := by
  have hmf := run_makeFunc
  have HC := Lib.hid hc
  have HL := Lib.hid h.lt
  clear hc
  go_enter Try.func61, Try.ntmps61
  go_wp2_with fail
  have k1 : Blk (((w.alloc (.cells #[.pointer (some ⟨pb, 0, none⟩)] 23)).alloc (.cells #[.int .i64 x, .int .i64 y, .int .i64 z] 39)).alloc (.cells #[.int .i64 0] 3)) w.heap.size 23 #[.pointer (some ⟨pb, 0, none⟩)] := ((Blk.new _ _ _).alloc _).alloc _
  have k2 : Blk (((w.alloc (.cells #[.pointer (some ⟨pb, 0, none⟩)] 23)).alloc (.cells #[.int .i64 x, .int .i64 y, .int .i64 z] 39)).alloc (.cells #[.int .i64 0] 3)) (w.heap.size + 1) 39 #[.int .i64 x, .int .i64 y, .int .i64 z] := by
    have := (Blk.new (w.alloc (.cells #[.pointer (some ⟨pb, 0, none⟩)] 23)) 39 #[.int .i64 x, .int .i64 y, .int .i64 z]).alloc (.cells #[.int .i64 0] 3)
    simpa using this
  have k3 : Blk (((w.alloc (.cells #[.pointer (some ⟨pb, 0, none⟩)] 23)).alloc (.cells #[.int .i64 x, .int .i64 y, .int .i64 z] 39)).alloc (.cells #[.int .i64 0] 3)) (w.heap.size + 1 + 1) 3 #[.int .i64 0] := by
    have := (Blk.new ((w.alloc (.cells #[.pointer (some ⟨pb, 0, none⟩)] 23)).alloc (.cells #[.int .i64 x, .int .i64 y, .int .i64 z] 39)) 3 #[.int .i64 0])
    simpa using this
  have fr0 : Frame [] w _ := ((Frame.alloc [] w (.cells #[.pointer (some ⟨pb, 0, none⟩)] 23)).trans1 (Frame.alloc [] _ (.cells #[.int .i64 x, .int .i64 y, .int .i64 z] 39))).trans1 (Frame.alloc [] _ (.cells #[.int .i64 0] 3))
  have hz : (((w.alloc (.cells #[.pointer (some ⟨pb, 0, none⟩)] 23)).alloc (.cells #[.int .i64 x, .int .i64 y, .int .i64 z] 39)).alloc (.cells #[.int .i64 0] 3)).heap.size = w.heap.size + 3 := by simp
  generalize (((w.alloc (.cells #[.pointer (some ⟨pb, 0, none⟩)] 23)).alloc (.cells #[.int .i64 x, .int .i64 y, .int .i64 z] 39)).alloc (.cells #[.int .i64 0] 3)) = w0 at *
  refine (catch_ret 110 _ w0 (fun w'' => Blk w'' (w.heap.size + 1 + 1) 3 #[.int .i64 k] ∧ ∃ F', St w'' pb F' l' left' ∧ Frame F w w'' ∧ Grow F F' w ∧ ∀ x ∈ F', x ≠ w.heap.size + 1 + 1) (F ++ [w.heap.size + 1 + 1]) entered_made1 ?_ ?_).mono ?_
  · intro x hx
    simp at hx
    rcases hx with hx | hx
    · have := HL.out x hx; omega
    · omega
  · intro w1 fr1 hz1
    have st1 := (h.frame0 fr0).frame0 fr1
    refine (made1_ret _ _ _ pb x y z k w1 (fun w' => StEnd w1 pb F l' left' w') F (k1.frame fr1 (by simp)) (k2.frame fr1 (by simp)) (k3.frame fr1 (by simp)) (fun hm => by have := HL.out _ hm; omega) ((HC.out w1 F st1).mono ?_)).mono ?_
    · rintro e w' ⟨rfl, F', a1, a2, a3⟩
      exact ⟨rfl, a2, F', a1, a2, a3⟩
    · rintro e w' ⟨rfl, w2, f2, ⟨F', a1, a2, a3⟩, f3, hk'⟩
      refine ⟨rfl, (f2.mono (S' := F ++ [w.heap.size + 1 + 1]) (fun x hx => .inl (by simp [hx]))).trans f3 (by simp), fun w'' f4 => ⟨hk'.frame f4 (by simp; omega), ?_⟩⟩
      have hF' : ∀ x ∈ F', x ∈ F ∨ w0.heap.size + 2 ≤ x := fun x hx => by rcases a3 x hx with h | h; exact .inl h; right; omega
      refine ⟨F', (a1.frame f3 ?_).frame f4 ?_, ?_, ?_, ?_⟩
      · intro x hx; simp
        rcases hF' x hx with h | h
        · have := HL.out x h; omega
        · omega
      · intro x hx; simp
        rcases hF' x hx with h | h
        · have := HL.out x h; omega
        · omega
      · exact ((((fr0.trans1 fr1).mono (S' := F) (by simp)).trans1 f2).trans f3 (by simp; omega)).trans f4 (by simp; omega)
      · intro x hx
        rcases hF' x hx with h | h
        · exact .inl h
        · right; omega
      · intro x hx
        rcases hF' x hx with h | h
        · have := HL.out x h; omega
        · omega
  · rintro e w1 ⟨rfl, hkb, hst⟩
    have c1 := hkb.at 0 rfl
    have c2 := hkb.frozen 0
    have HST := Lib.hid hst
    clear hst
    go_wp2_with fail
    have k4 := (hkb.set 0 (.int .i64 k)).at 0 rfl
    obtain ⟨F', a1, a2, a3, hF'⟩ := HST.out
    refine bodyPost_ret (v := .tuple #[.int .i64 k, .int .i64 0]) (by simp [results, Try.results61, go_sem, k4]) rfl ⟨rfl, F', a1.frame (Frame.setCell (S := [w.heap.size + 1 + 1]) _ _ _ (by simp)) (fun x hx => by simp; exact hF' x hx), a2.trans (Frame.setCell (S := [w.heap.size + 1 + 1]) _ _ _ (by simp)) (by simp; omega), a3⟩

theorem made_full (pb : Nat) (F : List Nat) (l : List Gt) (x y z : Int) (w : World) (h : St w pb F l 0) (hf : find ⟨x, y, z⟩ l 0 = none) :
    Calls Try.prog 61 #[.pointer (some ⟨pb, 0, none⟩), .agg #[.int .i64 x, .int .i64 y, .int .i64 z]] w fun e w' => e = .returned (.tuple #[.int .i64 0, .int .i64 10]) ∧ Frame [] w w' := by
  have hmf := run_makeFunc
  have HF := Lib.hid hf
  clear hf
  go_enter Try.func61, Try.ntmps61
  go_wp2_with fail
  have k1 : Blk (((w.alloc (.cells #[.pointer (some ⟨pb, 0, none⟩)] 23)).alloc (.cells #[.int .i64 x, .int .i64 y, .int .i64 z] 39)).alloc (.cells #[.int .i64 0] 3)) w.heap.size 23 #[.pointer (some ⟨pb, 0, none⟩)] := ((Blk.new _ _ _).alloc _).alloc _
  have k2 : Blk (((w.alloc (.cells #[.pointer (some ⟨pb, 0, none⟩)] 23)).alloc (.cells #[.int .i64 x, .int .i64 y, .int .i64 z] 39)).alloc (.cells #[.int .i64 0] 3)) (w.heap.size + 1) 39 #[.int .i64 x, .int .i64 y, .int .i64 z] := by
    have := (Blk.new (w.alloc (.cells #[.pointer (some ⟨pb, 0, none⟩)] 23)) 39 #[.int .i64 x, .int .i64 y, .int .i64 z]).alloc (.cells #[.int .i64 0] 3)
    simpa using this
  have k3 : Blk (((w.alloc (.cells #[.pointer (some ⟨pb, 0, none⟩)] 23)).alloc (.cells #[.int .i64 x, .int .i64 y, .int .i64 z] 39)).alloc (.cells #[.int .i64 0] 3)) (w.heap.size + 1 + 1) 3 #[.int .i64 0] := by
    have := (Blk.new ((w.alloc (.cells #[.pointer (some ⟨pb, 0, none⟩)] 23)).alloc (.cells #[.int .i64 x, .int .i64 y, .int .i64 z] 39)) 3 #[.int .i64 0])
    simpa using this
  have fr0 : Frame [] w _ := ((Frame.alloc [] w (.cells #[.pointer (some ⟨pb, 0, none⟩)] 23)).trans1 (Frame.alloc [] _ (.cells #[.int .i64 x, .int .i64 y, .int .i64 z] 39))).trans1 (Frame.alloc [] _ (.cells #[.int .i64 0] 3))
  have hz : (((w.alloc (.cells #[.pointer (some ⟨pb, 0, none⟩)] 23)).alloc (.cells #[.int .i64 x, .int .i64 y, .int .i64 z] 39)).alloc (.cells #[.int .i64 0] 3)).heap.size = w.heap.size + 3 := by simp
  generalize (((w.alloc (.cells #[.pointer (some ⟨pb, 0, none⟩)] 23)).alloc (.cells #[.int .i64 x, .int .i64 y, .int .i64 z] 39)).alloc (.cells #[.int .i64 0] 3)) = w0 at *
  refine (catch_bail 110 _ w0 (fun w'' => Blk w'' (w.heap.size + 1 + 1) 3 #[.int .i64 0] ∧ Frame [] w w'') [] 10 1 entered_made1 (by simp) ?_).mono ?_
  · intro w1 fr1 hz1
    have st1 := (h.frame0 fr0).frame0 fr1
    refine (made1_bail _ _ _ pb x y z w1 (k1.frame fr1 (by simp)) (k2.frame fr1 (by simp)) (gate_full pb F l x y z w1 st1 HF.out)).mono ?_
    rintro e w' ⟨chain, rfl, hb, f2⟩
    refine ⟨chain, rfl, hb, f2, fun w'' f4 => ⟨((k3.frame fr1 (by simp)).frame f2 (by simp)).frame f4 (by simp; omega), ?_⟩⟩
    exact ((fr0.trans1 fr1).trans1 f2).trans f4 (by simp; omega)
  · rintro e w1 ⟨rfl, hkb, hfr⟩
    have c1 := hkb.at 0 rfl
    have c2 := hkb.frozen 0
    go_wp2_with fail
    have k4 := (hkb.set 0 (.int .i64 0)).at 0 rfl
    refine bodyPost_ret (v := .tuple #[.int .i64 0, .int .i64 10]) (by simp [results, Try.results61, go_sem, k4]) rfl ⟨rfl, hfr.trans (Frame.setCell (S := [w.heap.size + 1 + 1]) _ _ _ (by simp)) (by simp; omega)⟩

theorem made_any (pb : Nat) (F : List Nat) (l : List Gt) (left : Int) (x y z : Int) (w : World) (h : St w pb F l left) :
    Calls Try.prog 61 #[.pointer (some ⟨pb, 0, none⟩), .agg #[.int .i64 x, .int .i64 y, .int .i64 z]] w fun e w' =>
      e = .returned (.tuple #[.int .i64 (put ⟨x, y, z⟩ l left).1.1, .int .i64 (put ⟨x, y, z⟩ l left).1.2]) ∧ StEnd w pb F (put ⟨x, y, z⟩ l left).2.1 (put ⟨x, y, z⟩ l left).2.2 w' := by
  have self : ∀ w' F1, St w' pb F1 l left → ∀ w'', Frame [] w' w'' → StEnd w' pb F1 l left w'' := fun w' F1 h w'' f => ⟨F1, h.frame0 f, f.mono (by simp), fun x hx => .inl hx⟩
  unfold put
  cases hf : find ⟨x, y, z⟩ l 0 with
  | some k =>
    exact made_of pb F l l left left k x y z w h (fun w1 F1 h1 => (gate_old pb F1 l left x y z w1 h1 k hf).mono (fun e w' ⟨he, f⟩ => ⟨he, self _ _ h1 _ f⟩))
  | none =>
    by_cases hl : 1 ≤ left
    · simp only [if_pos hl]
      exact made_of pb F l (l ++ [⟨x, y, z⟩]) left (left - 1) l.length x y z w h (fun w1 F1 h1 => (gate_new pb F1 l left x y z w1 h1 hf hl).mono (fun e w' ⟨he, F', a, b, c⟩ => ⟨he, F', a, b, c⟩))
    · have h0 : left = 0 := by obtain ⟨_, _, _, _, _, _, _, _, _, _, _, _, h0, _⟩ := h; omega
      subst h0
      simp only [if_neg hl]
      exact (made_full pb F l x y z w h hf).mono (fun e w' ⟨he, f⟩ => ⟨he, self _ _ h _ f⟩)

end Go.Proofs.Ytolkmapdbilolaa

namespace Go.Proofs.Ytolkmapdbilolaa
open Go.RowKit
set_option linter.unusedSimpArgs false
set_option linter.unusedVariables false

/-- A slice of ints, as it is read: nothing, or cells in a row. -/
def RdI (w : World) (a : Option Addr) (xs : List Int) : Prop :=
  xs = [] ∨ ∃ b off, a = some ⟨b, off, none⟩ ∧ b < w.heap.size ∧ ∀ k (h : k < xs.length), w.cell? ⟨b, off + k, none⟩ = some (.int .i64 xs[k])
theorem RdI.frame {w w' : World} {a : Option Addr} {xs : List Int} (h : RdI w a xs) (f : Frame [] w w') : RdI w' a xs := by
  rcases h with h | ⟨b, off, h1, h2, h3⟩
  · exact .inl h
  · exact .inr ⟨b, off, h1, Nat.lt_of_lt_of_le h2 f.size, fun k h => f.cell (h3 k h) (by simp)⟩
theorem RdI.at {w : World} {a : Option Addr} {xs : List Int} (h : RdI w a xs) {k : Nat} (hk : k < xs.length) : ∃ b off, a = some ⟨b, off, none⟩ ∧ w.cell? ⟨b, off + k, none⟩ = some (.int .i64 xs[k]) := by
  rcases h with h | ⟨b, off, h1, h2, h3⟩
  · subst h; simp at hk
  · exact ⟨b, off, h1, h3 k hk⟩

/-- A function value that tells a Bool of an int, and writes nothing that was there. -/
def TellsI (w : World) (K : Nat) (caps : Array Value) (p : Int → Bool) : Prop :=
  Entered K ∧ ∀ w', Frame [] w w' → ∀ n : Int, Calls Try.prog K (#[.int .i64 n] ++ caps) w' fun e w'' => e = .returned (.bool (p n)) ∧ Frame [] w' w''

def idxI (p : Int → Bool) (xs : List Int) : Int := match xs.findIdx? p with | some k => k | none => -1

theorem idxI_at {p : Int → Bool} {xs : List Int} {k : Nat} (hk : k < xs.length) (h : ∀ j (hj : j < k), p xs[j] = false) (hp : p xs[k] = true) : idxI p xs = k := by
  have : xs.findIdx? p = some k := by
    rw [List.findIdx?_eq_some_iff_getElem]
    exact ⟨hk, hp, fun j hj => by simp [h j hj]⟩
  simp [idxI, this]
theorem idxI_none {p : Int → Bool} {xs : List Int} (h : ∀ j (hj : j < xs.length), p xs[j] = false) : idxI p xs = -1 := by
  have : xs.findIdx? p = none := by
    rw [List.findIdx?_eq_none_iff]
    intro x hx
    obtain ⟨j, hj, rfl⟩ := List.getElem_of_mem hx
    exact h j hj
  simp [idxI, this]

theorem indexFunc_int (a : Option Addr) (cap : Nat) (xs : List Int) (K : Nat) (caps : Array Value) (p : Int → Bool) (w : World) (hx : RdI w a xs) (hl : xs.length ≤ 1073741824) (hp : TellsI w K caps p) :
    Calls Try.prog 144 #[.slice a xs.length cap, .func (.func K) #[] caps] w fun e w' => e = .returned (.int .i64 (idxI p xs)) ∧ Frame [] w w' := by
  obtain ⟨hK, hP⟩ := hp
  have HX := Lib.hid hx
  have HP := Lib.hid hP
  clear hx hP
  go_enter Try.func144, Try.ntmps144
  go_wp2_with fail
  go_loopw [8] (fun i wr => ∃ k : Nat, k ≤ xs.length ∧ i = .int .i64 k ∧ Frame [] w wr ∧ Hid (∀ j (hj : j < xs.length), j < k → p xs[j] = false)) (fun i _ => xs.length - (intOf i).toNat)
  case atStart => exact ⟨0, Nat.zero_le _, rfl, Frame.refl _ _, fun j hj h => by omega⟩
  case round =>
    obtain ⟨k, hk, rfl, hf, hq⟩ := hrel
    by_cases hlt : k < xs.length
    · obtain ⟨b, off, rfl, hc⟩ := (HX.out.frame hf).at hlt
      have hcall := hK (#[.int .i64 xs[k]] ++ caps)
      go_wp2_with fail
      refine (HP.out wr hf xs[k]).mono ?_
      rintro e w2 ⟨rfl, f2⟩
      cases hpk : p xs[k] with
      | true =>
        go_wp2_with fail
        go_ret
        exact ⟨by rw [idxI_at hlt (fun j hj => hq.out j (by omega) hj) hpk]; rfl, hf.trans0 f2⟩
      | false =>
        go_wp2_with fail
        go_roundw
        case rel => exact ⟨k + 1, by omega, by go_num, hf.trans0 f2, fun j hj hjk => by
          rcases Nat.lt_or_ge j k with h | h
          · exact hq.out j hj h
          · have : j = k := by omega
            subst this; exact hpk⟩
        case measure => simp [intOf]; omega
    · go_wp2_with fail
      go_ret
      exact ⟨by rw [idxI_none (fun j hj => hq.out j hj (by omega))]; rfl, hf⟩

theorem containsFunc_int (a : Option Addr) (cap : Nat) (xs : List Int) (K : Nat) (caps : Array Value) (p : Int → Bool) (w : World) (hx : RdI w a xs) (hl : xs.length ≤ 1073741824) (hp : TellsI w K caps p) :
    Calls Try.prog 112 #[.slice a xs.length cap, .func (.func K) #[] caps] w fun e w' => e = .returned (.bool (xs.any p)) ∧ Frame [] w w' := by
  have H := Lib.hid (indexFunc_int a cap xs K caps p w hx hl hp)
  have hi : Hid (decide (0 ≤ idxI p xs) = xs.any p) := by
    show decide (0 ≤ idxI p xs) = xs.any p
    unfold idxI
    cases h : xs.findIdx? p with
    | none => rw [List.findIdx?_eq_none_iff] at h; simp; exact h
    | some k =>
      rw [List.findIdx?_eq_some_iff_getElem] at h
      obtain ⟨h1, h2, _⟩ := h
      have : xs.any p = true := by rw [List.any_eq_true]; exact ⟨xs[k], List.getElem_mem h1, h2⟩
      rw [this]; simp
  generalize idxI p xs = ix at *
  clear hx hp
  go_enter Try.func112, Try.ntmps112
  go_wp2_with fail
  refine H.out.mono ?_
  rintro e w' ⟨rfl, f⟩
  go_wp2_with fail
  go_ret
  exact ⟨by rw [hi.out]; rfl, f⟩

end Go.Proofs.Ytolkmapdbilolaa

