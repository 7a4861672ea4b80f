/- The reference's small questions: name, place, Texts. Go's == and != at properties and edges. tansyref10.Same: are two graphs that are told one? -/
import Derived.Test.YtjcajidgaejhoaaGreatMi15
import Derived.Test.YtjcajidgaejhoaaGreatMi16
import Derived.Laws.StructEq
namespace Go.Proofs.YtjcajidgaejhoaaGreat
open Go.RowKit
set_option linter.unusedSimpArgs false
set_option linter.unusedVariables false

theorem rname_any (s : ByteArray) (w : World) (hs : s.size ≤ 9223372036854775807) : Calls Tryz.prog 31 #[.string s] w fun e w' => e = .returned (.bool (namedB s)) ∧ w' = w := by
  by_cases h0 : 0 < s.size
  · by_cases h1 : s.size ≤ 20
    · have e : namedB s = true := by simp [namedB, h0, h1]
      rw [e]
      clear e
      have h2 : decide (1 ≤ (s.size : Int)) = true := by simp; omega
      go_enter Tryz.func31, Tryz.ntmps31
      go_wp2
      go_ret
      exact ⟨by simp; omega, rfl⟩
    · have e : namedB s = false := by simp [namedB, h0, h1]
      rw [e]
      clear e
      have h2 : decide (1 ≤ (s.size : Int)) = true := by simp; omega
      go_enter Tryz.func31, Tryz.ntmps31
      go_wp2
      go_ret
      exact ⟨by simp; omega, rfl⟩
  · have e : namedB s = false := by simp [namedB, h0]
    have e0 : s.size = 0 := by omega
    rw [e]
    clear e
    go_enter Tryz.func31, Tryz.ntmps31
    go_wp2
    go_ret
    exact ⟨rfl, rfl⟩

theorem beq_toList_true {x y : ByteArray} (h : x = y) : (x.toList == y.toList) = true := by subst h; simp
theorem beq_toList_false {x y : ByteArray} (h : x ≠ y) : (x.toList == y.toList) = false := by
  rw [beq_eq_false_iff_ne]
  intro e
  apply h
  exact ba_ext e

set_option maxHeartbeats 1000000 in
theorem texts_any (U1 U2 : Nat → Prop) (a1 a2 : Option Addr) (c1 c2 : Nat) (xs ys : List ByteArray) (w : World) (h1 : RF U1 w 1 encS a1 xs) (h2 : RF U2 w 1 encS a2 ys) (l1 : xs.length ≤ 1000000) (l2 : ys.length ≤ 1000000) :
    Calls Tryz.prog 20 #[.slice a1 xs.length c1, .slice a2 ys.length c2] w (Ans (xs = ys) w) := by
  have H1 := Lib.hid h1
  have H2 := Lib.hid h2
  clear h1 h2
  by_cases hlen : xs.length = ys.length
  · have HL := Lib.hid hlen
    have hle : ys.length ≤ xs.length := by omega
    have hge : xs.length ≤ ys.length := by omega
    have hn : ((xs.length : Int) != (ys.length : Int)) = false := by simp [hlen]
    clear hlen
    go_enter Tryz.func20, Tryz.ntmps20
    go_wp2_with fail
    go_loopw [5] (fun i wr => ∃ k : Nat, k ≤ xs.length ∧ i = .int .i64 k ∧ Hid (Frame [] w wr ∧ ∀ j, j < k → xs[j]? = ys[j]?)) (fun i _ => xs.length - (intOf i).toNat)
    case atStart => exact ⟨0, Nat.zero_le _, rfl, Frame.refl _ _, fun j h => by omega⟩
    case round =>
      obtain ⟨k, hk, rfl, hR⟩ := hrel
      by_cases hlt : k < xs.length
      · have g1 : xs[k]? = some xs[k] := by simp [hlt]
        have hlt2 : k < ys.length := by omega
        have g2 : ys[k]? = some ys[k] := by simp [hlt2]
        obtain ⟨b1, o1, rfl, -, q1⟩ := (H1.out.frame0 hR.out.1) k _ g1
        obtain ⟨b2, o2, rfl, -, q2⟩ := (H2.out.frame0 hR.out.1) k _ g2
        have d1 := q1 0 _ rfl
        have d2 := q2 0 _ rfl
        simp only [Nat.add_zero, Nat.mul_one] at d1 d2
        generalize xs[k] = x at *
        generalize ys[k] = y at *
        have G1 := Lib.hid g1
        have G2 := Lib.hid g2
        clear q1 q2 g1 g2
        by_cases hxy : x = y
        · have hb := beq_toList_true hxy
          have HX := Lib.hid hxy
          clear hxy
          go_wp2_with fail
          go_quiet (fail)
          go_wp2_with fail
          go_roundw
          case rel => exact ⟨k + 1, by omega, by first | rfl | go_num, Lib.hid ⟨hR.out.1.trans1 (by (repeat first | assumption | exact Frame.refl _ _ | refine Frame.trans1 ?_ (Frame.alloc _ _ _) | refine Frame.trans1 ?_ (Frame.drew _ _) | refine Frame.trans1 ?_ (Frame.drewN _ _ _))), fun j hj => by
            rcases Nat.lt_or_ge j k with h | h
            · exact hR.out.2 j h
            · obtain rfl : j = k := by omega
              rw [G1.out, G2.out, HX.out]⟩⟩
          case measure => first | (simp [intOf]; done) | (simp [intOf]; omega)
        · have hb := beq_toList_false hxy
          have HX := Lib.hid hxy
          clear hxy
          go_wp2_with fail
          go_quiet (fail)
          go_wp2_with fail
          go_ret
          refine Ans.mkF (fun e => ?_) (hR.out.1.trans1 (by (repeat first | assumption | exact Frame.refl _ _ | refine Frame.trans1 ?_ (Frame.alloc _ _ _) | refine Frame.trans1 ?_ (Frame.drew _ _) | refine Frame.trans1 ?_ (Frame.drewN _ _ _))))
          subst e
          have := G1.out.symm.trans G2.out
          simp at this
          exact HX.out this
      · obtain rfl : k = xs.length := by omega
        go_wp2_with fail
        go_ret
        refine Ans.mkT (List.ext_getElem? fun j => ?_) (hR.out.1.trans1 (by (repeat first | assumption | exact Frame.refl _ _ | refine Frame.trans1 ?_ (Frame.alloc _ _ _) | refine Frame.trans1 ?_ (Frame.drew _ _) | refine Frame.trans1 ?_ (Frame.drewN _ _ _))))
        rcases Nat.lt_or_ge j xs.length with h | h
        · exact hR.out.2 j h
        · rw [List.getElem?_eq_none h, List.getElem?_eq_none (by omega)]
  · have hn : ((xs.length : Int) != (ys.length : Int)) = true := by simp; omega
    have HL := Lib.hid hlen
    clear hlen
    go_enter Tryz.func20, Tryz.ntmps20
    go_wp2_with fail
    go_ret
    exact Ans.mkF (fun e => HL.out (by rw [e])) (Frame.refl _ _)

/-- Where a node stands; -1: it is not there. -/
def placeV (ns : List Nv) (t : Int) : Int := match (ns.map (·.1)).findIdx? (fun x => decide (x = t)) with | some k => k | none => -1
theorem placeV_at {ns : List Nv} {t : Int} {k : Nat} {n : Nv} (hk : ns[k]? = some n) (h : n.1 = t) (hj : ∀ j m, j < k → ns[j]? = some m → m.1 ≠ t) : placeV ns t = k := by
  have hlt : k < ns.length := (List.getElem?_eq_some_iff.1 hk).1
  have : (ns.map (·.1)).findIdx? (fun x => decide (x = t)) = some k := by
    rw [List.findIdx?_eq_some_iff_getElem]
    refine ⟨by simpa using hlt, ?_, fun j hj' => ?_⟩
    · have := (List.getElem?_eq_some_iff.1 hk).2
      simp [this, h]
    · have hjl : j < ns.length := by omega
      have := hj j ns[j] hj' (by simp [hjl])
      simpa using this
  simp [placeV, this]
theorem placeV_none {ns : List Nv} {t : Int} (hj : ∀ j m, j < ns.length → ns[j]? = some m → m.1 ≠ t) : placeV ns t = -1 := by
  have : (ns.map (·.1)).findIdx? (fun x => decide (x = t)) = none := by
    rw [List.findIdx?_eq_none_iff]
    intro x hx
    obtain ⟨m, hm, rfl⟩ := List.mem_map.1 hx
    obtain ⟨j, hjl, rfl⟩ := List.getElem_of_mem hm
    have := hj j ns[j] hjl (by simp [hjl])
    simpa using this
  simp [placeV, this]
set_option maxHeartbeats 1000000 in
theorem place_any (U : Nat → Prop) (an ae : Option Addr) (nc en ec : Nat) (ns : List Nv) (nx t : Int) (w : World) (h : RN U w an ns) (hl : ns.length ≤ 1000000) :
    Calls Tryz.prog 32 #[.agg #[.slice an ns.length nc, .slice ae en ec, .int .i64 nx], .int .i64 t] w fun e w' => e = .returned (.int .i64 (placeV ns t)) ∧ Frame [] w w' := by
  have H := Lib.hid h
  clear h
  go_enter Tryz.func32, Tryz.ntmps32
  go_wp2_with fail
  have fr : Frame [] w (w.alloc (.cells #[.slice an ns.length nc, .slice ae en ec, .int .i64 nx] 25)) := Frame.alloc _ _ _
  have b0 := Blk.new w 25 #[.slice an ns.length nc, .slice ae en ec, .int .i64 nx]
  generalize w.alloc (.cells #[.slice an ns.length nc, .slice ae en ec, .int .i64 nx] 25) = wa at *
  have B := Lib.hid b0
  have FR := Lib.hid fr
  clear b0 fr
  go_loopw [5] (fun i wr => ∃ k : Nat, k ≤ ns.length ∧ i = .int .i64 k ∧ Hid (Frame [] wa wr ∧ ∀ j m, j < k → ns[j]? = some m → m.1 ≠ t)) (fun i _ => ns.length - (intOf i).toNat)
  case atStart => exact ⟨0, Nat.zero_le _, rfl, Frame.refl _ _, fun j _ h => by omega⟩
  case round =>
    obtain ⟨k, hk, rfl, hR⟩ := hrel
    have z0 := (B.out.frame hR.out.1 (by simp)).at 0 rfl
    by_cases hlt : k < ns.length
    · have g1 : ns[k]? = some ns[k] := by simp [hlt]
      obtain ⟨b, off, la, lc, pa, pc, rfl, -, d0, -⟩ := ((H.out.frame0 FR.out).frame0 hR.out.1) k _ g1
      generalize ns[k] = n at *
      obtain ⟨i, ls, ps⟩ := n
      simp only at d0
      have G1 := Lib.hid g1
      clear g1
      by_cases hit : i = t
      · have hb : (i == t) = true := by simp [hit]
        have HX := Lib.hid hit
        clear hit
        go_wp2_with fail
        go_ret
        exact ⟨by rw [placeV_at G1.out HX.out hR.out.2]; rfl, FR.out.trans1 (hR.out.1.trans1 (by (repeat first | assumption | exact Frame.refl _ _ | refine Frame.trans1 ?_ (Frame.alloc _ _ _) | refine Frame.trans1 ?_ (Frame.drew _ _) | refine Frame.trans1 ?_ (Frame.drewN _ _ _))))⟩
      · have hb : (i == t) = false := by simp [hit]
        have HX := Lib.hid hit
        clear hit
        go_wp2_with fail
        go_roundw
        case rel => exact ⟨k + 1, by omega, by first | rfl | go_num, Lib.hid ⟨hR.out.1.trans1 (by (repeat first | assumption | exact Frame.refl _ _ | refine Frame.trans1 ?_ (Frame.alloc _ _ _) | refine Frame.trans1 ?_ (Frame.drew _ _) | refine Frame.trans1 ?_ (Frame.drewN _ _ _))), fun j m hj hm => by
          rcases Nat.lt_or_ge j k with h | h
          · exact hR.out.2 j m h hm
          · obtain rfl : j = k := by omega
            have := G1.out.symm.trans hm
            simp at this
            subst this
            exact HX.out⟩⟩
        case measure => first | (simp [intOf]; done) | (simp [intOf]; omega)
    · obtain rfl : k = ns.length := by omega
      go_wp2_with fail
      go_ret
      exact ⟨by rw [placeV_none hR.out.2]; rfl, FR.out.trans1 (hR.out.1.trans1 (by (repeat first | assumption | exact Frame.refl _ _ | refine Frame.trans1 ?_ (Frame.alloc _ _ _) | refine Frame.trans1 ?_ (Frame.drew _ _) | refine Frame.trans1 ?_ (Frame.drewN _ _ _))))⟩
end Go.Proofs.YtjcajidgaejhoaaGreat

namespace Go.Proofs.YtjcajidgaejhoaaGreat
open Go.RowKit
set_option linter.unusedSimpArgs false
set_option linter.unusedVariables false

def Pr.v (p : Pr) : Value := .agg #[.string p.name, .string p.val]
def Ed.v (e : Ed) : Value := .agg #[.int .i64 e.tok, .int .i64 e.src, .string e.lab, .int .i64 e.dst]
theorem toList_inj (x y : ByteArray) : (x.toList = y.toList) = (x = y) := propext ⟨ba_ext, fun h => by rw [h]⟩
theorem toList_eq_iff (x y : ByteArray) : (x.toList == y.toList) = decide (x = y) := by
  by_cases h : x = y
  · rw [beq_toList_true h, decide_eq_true h]
  · rw [beq_toList_false h, decide_eq_false h]
theorem eqIn_prop (p q : Pr) (w : World) : (Op.equalIn 10000 67 p.v q.v).run Tryz.prog w = .ok (decide (p = q)) w := by
  obtain ⟨p1, p2⟩ := p
  obtain ⟨q1, q2⟩ := q
  have hS : Tryz.prog.underlying 67 = some (.struct (Tryz.prog.fieldsOf 67)) := by kernel_rfl
  have hp : Tryz.prog.stoodInHeld 67 = false := by kernel_rfl
  have us := Tryz.underlying9
  simp only [Pr.v]
  rw [show (10000 : Nat) = 9999 + 1 from rfl, run_equalIn_agg w 9999 67 _ _ hS hp]
  simp only [Program.fieldsOf, Tryz.underlying67]
  go_simp
  by_cases h1 : p1 = q1 <;> by_cases h2 : p2 = q2 <;> simp [h1, h2, toList_inj]
theorem eqIn_edge (p q : Ed) (w : World) : (Op.equalIn 10000 44 p.v q.v).run Tryz.prog w = .ok (decide (p = q)) w := by
  obtain ⟨p1, p2, p3, p4⟩ := p
  obtain ⟨q1, q2, q3, q4⟩ := q
  have hS : Tryz.prog.underlying 44 = some (.struct (Tryz.prog.fieldsOf 44)) := by kernel_rfl
  have hp : Tryz.prog.stoodInHeld 44 = false := by kernel_rfl
  have us := Tryz.underlying9
  have ui := Tryz.underlying3
  simp only [Ed.v]
  rw [show (10000 : Nat) = 9999 + 1 from rfl, run_equalIn_agg w 9999 44 _ _ hS hp]
  simp only [Program.fieldsOf, Tryz.underlying44]
  go_simp
  by_cases h1 : p1 = q1 <;> by_cases h2 : p2 = q2 <;> by_cases h3 : p3 = q3 <;> by_cases h4 : p4 = q4 <;> simp [h1, h2, h3, h4, toList_inj]
theorem eql_prop (p q : Pr) (w : World) : (binOp .eql 67 p.v q.v).run Tryz.prog w = .ok (.bool (decide (p = q))) w := by
  have : (Op.equal 67 p.v q.v).run Tryz.prog w = .ok (decide (p = q)) w := eqIn_prop p q w
  simp only [Pr.v] at *
  simp [binOp, this]
theorem eql_edge (p q : Ed) (w : World) : (binOp .eql 44 p.v q.v).run Tryz.prog w = .ok (.bool (decide (p = q))) w := by
  have : (Op.equal 44 p.v q.v).run Tryz.prog w = .ok (decide (p = q)) w := eqIn_edge p q w
  simp only [Ed.v] at *
  simp [binOp, this]
theorem neq_prop (p q : Pr) (w : World) : (binOp .neq 67 p.v q.v).run Tryz.prog w = .ok (.bool (!decide (p = q))) w := by
  have : (Op.equal 67 p.v q.v).run Tryz.prog w = .ok (decide (p = q)) w := eqIn_prop p q w
  simp only [Pr.v] at *
  simp [binOp, this]
theorem neq_edge (p q : Ed) (w : World) : (binOp .neq 44 p.v q.v).run Tryz.prog w = .ok (.bool (!decide (p = q))) w := by
  have : (Op.equal 44 p.v q.v).run Tryz.prog w = .ok (decide (p = q)) w := eqIn_edge p q w
  simp only [Ed.v] at *
  simp [binOp, this]
theorem noGuardProp : Tryz.prog.eqGuardType Tryz.prog.depth 67 = false := by kernel_rfl
theorem noGuardEdge : Tryz.prog.eqGuardType Tryz.prog.depth 44 = false := by kernel_rfl
theorem guard_prop (b : BinOp) (x y : Operand) (u v : Array Value) (w : World) : (eqGuard b 67 x y (.agg u) (.agg v)).run Tryz.prog w = .ok () w := by
  have h := noGuardProp
  cases b <;> simp [eqGuard, Sem.run_bind, Result.andThen, go_sem, h]
theorem guard_edge (b : BinOp) (x y : Operand) (u v : Array Value) (w : World) : (eqGuard b 44 x y (.agg u) (.agg v)).run Tryz.prog w = .ok () w := by
  have h := noGuardEdge
  cases b <;> simp [eqGuard, Sem.run_bind, Result.andThen, go_sem, h]
end Go.Proofs.YtjcajidgaejhoaaGreat

namespace Go.Proofs.YtjcajidgaejhoaaGreat
open Go.RowKit
set_option linter.unusedSimpArgs false
set_option linter.unusedVariables false

theorem int_bne_true {a b : Int} (h : a ≠ b) : (a != b) = true := by simp [h]
theorem int_bne_false {a b : Int} (h : a = b) : (a != b) = false := by simp [h]
theorem nat_bne_true {a b : Nat} (h : a ≠ b) : ((a : Int) != (b : Int)) = true := by simp; omega
theorem nat_bne_false {a b : Nat} (h : a = b) : ((a : Int) != (b : Int)) = false := by simp [h]
theorem Gx.ext {x y : Gx} (h1 : x.ns = y.ns) (h2 : x.es = y.es) (h3 : x.next = y.next) : x = y := by cases x; cases y; simp_all
theorem list_eq_of_get {α : Type} {xs ys : List α} (hl : xs.length = ys.length) (h : ∀ j, j < xs.length → xs[j]? = ys[j]?) : xs = ys :=
  List.ext_getElem? fun j => by
    rcases Nat.lt_or_ge j xs.length with h1 | h1
    · exact h j h1
    · rw [List.getElem?_eq_none h1, List.getElem?_eq_none (by omega)]
theorem get_step {α : Type} {xs ys : List α} {k : Nat} {x : α} (h : ∀ j, j < k → xs[j]? = ys[j]?) (h1 : xs[k]? = some x) (h2 : ys[k]? = some x) : ∀ j, j < k + 1 → xs[j]? = ys[j]? := fun j hj => by
  rcases Nat.lt_or_ge j k with h3 | h3
  · exact h j h3
  · obtain rfl : j = k := by omega
    rw [h1, h2]

end Go.Proofs.YtjcajidgaejhoaaGreat

