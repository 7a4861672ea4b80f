/- The reference's small questions: name, place, Texts. -/
import Derived.Test.YtolkmapdbilolaaGR
import Derived.Test.YtolkmapdbilolaaQb
namespace Go.Proofs.Ytolkmapdbilolaa
open Go.RowKit
set_option linter.unusedSimpArgs false
set_option linter.unusedVariables false

theorem rname_any (s : ByteArray) (w : World) (hs : s.size ≤ 9223372036854775807) : Calls Try.prog 85 #[.string s] w fun e w' => e = .returned (.bool (namedB s)) ∧ w' = w := by
  by_cases h0 : 0 < s.size
  · by_cases h1 : s.size ≤ 20
    · have e : namedB s = true := by simp [namedB, h0, h1]
      rw [e]
      clear e
      have h2 : decide (1 ≤ (s.size : Int)) = true := by simp; omega
      go_enter Try.func85, Try.ntmps85
      go_wp2
      go_ret
      exact ⟨by simp; omega, rfl⟩
    · have e : namedB s = false := by simp [namedB, h0, h1]
      rw [e]
      clear e
      have h2 : decide (1 ≤ (s.size : Int)) = true := by simp; omega
      go_enter Try.func85, Try.ntmps85
      go_wp2
      go_ret
      exact ⟨by simp; omega, rfl⟩
  · have e : namedB s = false := by simp [namedB, h0]
    have e0 : s.size = 0 := by omega
    rw [e]
    clear e
    go_enter Try.func85, Try.ntmps85
    go_wp2
    go_ret
    exact ⟨rfl, rfl⟩

theorem beq_toList_true {x y : ByteArray} (h : x = y) : (x.toList == y.toList) = true := by subst h; simp
theorem beq_toList_false {x y : ByteArray} (h : x ≠ y) : (x.toList == y.toList) = false := by
  rw [beq_eq_false_iff_ne]
  intro e
  apply h
  exact ba_ext e

set_option maxHeartbeats 1000000 in
theorem texts_any (U1 U2 : Nat → Prop) (a1 a2 : Option Addr) (c1 c2 : Nat) (xs ys : List ByteArray) (w : World) (h1 : RF U1 w 1 encS a1 xs) (h2 : RF U2 w 1 encS a2 ys) (l1 : xs.length ≤ 1000000) (l2 : ys.length ≤ 1000000) :
    Calls Try.prog 90 #[.slice a1 xs.length c1, .slice a2 ys.length c2] w (Ans (xs = ys) w) := by
  have H1 := Lib.hid h1
  have H2 := Lib.hid h2
  clear h1 h2
  by_cases hlen : xs.length = ys.length
  · have HL := Lib.hid hlen
    have hle : ys.length ≤ xs.length := by omega
    have hge : xs.length ≤ ys.length := by omega
    have hn : ((xs.length : Int) != (ys.length : Int)) = false := by simp [hlen]
    clear hlen
    go_enter Try.func90, Try.ntmps90
    go_wp2_with fail
    go_loopw [5] (fun i wr => ∃ k : Nat, k ≤ xs.length ∧ i = .int .i64 k ∧ Hid (Frame [] w wr ∧ ∀ j, j < k → xs[j]? = ys[j]?)) (fun i _ => xs.length - (intOf i).toNat)
    case atStart => exact ⟨0, Nat.zero_le _, rfl, Frame.refl _ _, fun j h => by omega⟩
    case round =>
      obtain ⟨k, hk, rfl, hR⟩ := hrel
      by_cases hlt : k < xs.length
      · have g1 : xs[k]? = some xs[k] := by simp [hlt]
        have hlt2 : k < ys.length := by omega
        have g2 : ys[k]? = some ys[k] := by simp [hlt2]
        obtain ⟨b1, o1, rfl, -, q1⟩ := (H1.out.frame0 hR.out.1) k _ g1
        obtain ⟨b2, o2, rfl, -, q2⟩ := (H2.out.frame0 hR.out.1) k _ g2
        have d1 := q1 0 _ rfl
        have d2 := q2 0 _ rfl
        simp only [Nat.add_zero, Nat.mul_one] at d1 d2
        generalize xs[k] = x at *
        generalize ys[k] = y at *
        have G1 := Lib.hid g1
        have G2 := Lib.hid g2
        clear q1 q2 g1 g2
        by_cases hxy : x = y
        · have hb := beq_toList_true hxy
          have HX := Lib.hid hxy
          clear hxy
          go_wp2_with fail
          go_quiet (fail)
          go_wp2_with fail
          go_roundw
          case rel => exact ⟨k + 1, by omega, by first | rfl | go_num, Lib.hid ⟨hR.out.1.trans1 (by (repeat first | assumption | exact Frame.refl _ _ | refine Frame.trans1 ?_ (Frame.alloc _ _ _) | refine Frame.trans1 ?_ (Frame.drew _ _) | refine Frame.trans1 ?_ (Frame.drewN _ _ _))), fun j hj => by
            rcases Nat.lt_or_ge j k with h | h
            · exact hR.out.2 j h
            · obtain rfl : j = k := by omega
              rw [G1.out, G2.out, HX.out]⟩⟩
          case measure => first | (simp [intOf]; done) | (simp [intOf]; omega)
        · have hb := beq_toList_false hxy
          have HX := Lib.hid hxy
          clear hxy
          go_wp2_with fail
          go_quiet (fail)
          go_wp2_with fail
          go_ret
          refine Ans.mkF (fun e => ?_) (hR.out.1.trans1 (by (repeat first | assumption | exact Frame.refl _ _ | refine Frame.trans1 ?_ (Frame.alloc _ _ _) | refine Frame.trans1 ?_ (Frame.drew _ _) | refine Frame.trans1 ?_ (Frame.drewN _ _ _))))
          subst e
          have := G1.out.symm.trans G2.out
          simp at this
          exact HX.out this
      · obtain rfl : k = xs.length := by omega
        go_wp2_with fail
        go_ret
        refine Ans.mkT (List.ext_getElem? fun j => ?_) (hR.out.1.trans1 (by (repeat first | assumption | exact Frame.refl _ _ | refine Frame.trans1 ?_ (Frame.alloc _ _ _) | refine Frame.trans1 ?_ (Frame.drew _ _) | refine Frame.trans1 ?_ (Frame.drewN _ _ _))))
        rcases Nat.lt_or_ge j xs.length with h | h
        · exact hR.out.2 j h
        · rw [List.getElem?_eq_none h, List.getElem?_eq_none (by omega)]
  · have hn : ((xs.length : Int) != (ys.length : Int)) = true := by simp; omega
    have HL := Lib.hid hlen
    clear hlen
    go_enter Try.func90, Try.ntmps90
    go_wp2_with fail
    go_ret
    exact Ans.mkF (fun e => HL.out (by rw [e])) (Frame.refl _ _)

/-- Where a node stands; -1: it is not there. -/
def placeV (ns : List Nv) (t : Int) : Int := match (ns.map (·.1)).findIdx? (fun x => decide (x = t)) with | some k => k | none => -1
theorem placeV_at {ns : List Nv} {t : Int} {k : Nat} {n : Nv} (hk : ns[k]? = some n) (h : n.1 = t) (hj : ∀ j m, j < k → ns[j]? = some m → m.1 ≠ t) : placeV ns t = k := by
  have hlt : k < ns.length := (List.getElem?_eq_some_iff.1 hk).1
  have : (ns.map (·.1)).findIdx? (fun x => decide (x = t)) = some k := by
    rw [List.findIdx?_eq_some_iff_getElem]
    refine ⟨by simpa using hlt, ?_, fun j hj' => ?_⟩
    · have := (List.getElem?_eq_some_iff.1 hk).2
      simp [this, h]
    · have hjl : j < ns.length := by omega
      have := hj j ns[j] hj' (by simp [hjl])
      simpa using this
  simp [placeV, this]
theorem placeV_none {ns : List Nv} {t : Int} (hj : ∀ j m, j < ns.length → ns[j]? = some m → m.1 ≠ t) : placeV ns t = -1 := by
  have : (ns.map (·.1)).findIdx? (fun x => decide (x = t)) = none := by
    rw [List.findIdx?_eq_none_iff]
    intro x hx
    obtain ⟨m, hm, rfl⟩ := List.mem_map.1 hx
    obtain ⟨j, hjl, rfl⟩ := List.getElem_of_mem hm
    have := hj j ns[j] hjl (by simp [hjl])
    simpa using this
  simp [placeV, this]
set_option maxHeartbeats 1000000 in
theorem place_any (U : Nat → Prop) (an ae : Option Addr) (nc en ec : Nat) (ns : List Nv) (nx t : Int) (w : World) (h : RN U w an ns) (hl : ns.length ≤ 1000000) :
    Calls Try.prog 86 #[.agg #[.slice an ns.length nc, .slice ae en ec, .int .i64 nx], .int .i64 t] w fun e w' => e = .returned (.int .i64 (placeV ns t)) ∧ Frame [] w w' := by
  have H := Lib.hid h
  clear h
  go_enter Try.func86, Try.ntmps86
  go_wp2_with fail
  have fr : Frame [] w (w.alloc (.cells #[.slice an ns.length nc, .slice ae en ec, .int .i64 nx] 55)) := Frame.alloc _ _ _
  have b0 := Blk.new w 55 #[.slice an ns.length nc, .slice ae en ec, .int .i64 nx]
  generalize w.alloc (.cells #[.slice an ns.length nc, .slice ae en ec, .int .i64 nx] 55) = wa at *
  have B := Lib.hid b0
  have FR := Lib.hid fr
  clear b0 fr
  go_loopw [5] (fun i wr => ∃ k : Nat, k ≤ ns.length ∧ i = .int .i64 k ∧ Hid (Frame [] wa wr ∧ ∀ j m, j < k → ns[j]? = some m → m.1 ≠ t)) (fun i _ => ns.length - (intOf i).toNat)
  case atStart => exact ⟨0, Nat.zero_le _, rfl, Frame.refl _ _, fun j _ h => by omega⟩
  case round =>
    obtain ⟨k, hk, rfl, hR⟩ := hrel
    have z0 := (B.out.frame hR.out.1 (by simp)).at 0 rfl
    by_cases hlt : k < ns.length
    · have g1 : ns[k]? = some ns[k] := by simp [hlt]
      obtain ⟨b, off, la, lc, pa, pc, rfl, -, d0, -⟩ := ((H.out.frame0 FR.out).frame0 hR.out.1) k _ g1
      generalize ns[k] = n at *
      obtain ⟨i, ls, ps⟩ := n
      simp only at d0
      have G1 := Lib.hid g1
      clear g1
      by_cases hit : i = t
      · have hb : (i == t) = true := by simp [hit]
        have HX := Lib.hid hit
        clear hit
        go_wp2_with fail
        go_ret
        exact ⟨by rw [placeV_at G1.out HX.out hR.out.2]; rfl, FR.out.trans1 (hR.out.1.trans1 (by (repeat first | assumption | exact Frame.refl _ _ | refine Frame.trans1 ?_ (Frame.alloc _ _ _) | refine Frame.trans1 ?_ (Frame.drew _ _) | refine Frame.trans1 ?_ (Frame.drewN _ _ _))))⟩
      · have hb : (i == t) = false := by simp [hit]
        have HX := Lib.hid hit
        clear hit
        go_wp2_with fail
        go_roundw
        case rel => exact ⟨k + 1, by omega, by first | rfl | go_num, Lib.hid ⟨hR.out.1.trans1 (by (repeat first | assumption | exact Frame.refl _ _ | refine Frame.trans1 ?_ (Frame.alloc _ _ _) | refine Frame.trans1 ?_ (Frame.drew _ _) | refine Frame.trans1 ?_ (Frame.drewN _ _ _))), fun j m hj hm => by
          rcases Nat.lt_or_ge j k with h | h
          · exact hR.out.2 j m h hm
          · obtain rfl : j = k := by omega
            have := G1.out.symm.trans hm
            simp at this
            subst this
            exact HX.out⟩⟩
        case measure => first | (simp [intOf]; done) | (simp [intOf]; omega)
    · obtain rfl : k = ns.length := by omega
      go_wp2_with fail
      go_ret
      exact ⟨by rw [placeV_none hR.out.2]; rfl, FR.out.trans1 (hR.out.1.trans1 (by (repeat first | assumption | exact Frame.refl _ _ | refine Frame.trans1 ?_ (Frame.alloc _ _ _) | refine Frame.trans1 ?_ (Frame.drew _ _) | refine Frame.trans1 ?_ (Frame.drewN _ _ _))))⟩
end Go.Proofs.Ytolkmapdbilolaa
