/- tansyref22.Ints: are two rows of ints one? (printed by gen_ints2.py) tansylaw15.awake. Circuits cut: pure laws on budgets. The law CutBudget, walked. -/
import Derived.Test.YtoidafgeckhkcaaGreatMl37
import Derived.IntWalk
import Derived.BigQuiet
import Derived.Test.YtoidafgeckhkcaaGreatMl35
import Derived.Test.YtoidafgeckhkcaaGreatMl39
import Derived.Test.YtoidafgeckhkcaaGreatMl41
import Derived.Test.YtoidafgeckhkcaaGreatMl34
import Derived.Test.YtoidafgeckhkcaaGreatMl40
namespace Go.Proofs.YtoidafgeckhkcaaGreat
open Go.RowKit
set_option linter.unusedSimpArgs false
set_option linter.unusedVariables false

set_option maxHeartbeats 4000000 in
set_option maxRecDepth 100000 in
theorem ints_any (U1 U2 : Nat → Prop) (a1 a2 : Option Addr) (c1 c2 : Nat) (xs ys : List Int) (w : World) (h1 : RF U1 w 1 encI a1 xs) (h2 : RF U2 w 1 encI a2 ys) (l1 : xs.length ≤ 1000000) (l2 : ys.length ≤ 1000000) :
    Calls Tryz.prog 27 #[.slice a1 xs.length c1, .slice a2 ys.length c2] w (Ans (xs = ys) w) := by
  have H1 := Lib.hid h1
  have H2 := Lib.hid h2
  clear h1 h2
  by_cases hlen : xs.length = ys.length
  · have HL := Lib.hid hlen
    have hle : ys.length ≤ xs.length := by omega
    have hge : xs.length ≤ ys.length := by omega
    have hn : ((xs.length : Int) != (ys.length : Int)) = false := by simp [hlen]
    clear hlen
    go_enter Tryz.func27, Tryz.ntmps27
    go_wp2_with fail
    go_loopw [5] (fun i wr => ∃ k : Nat, k ≤ xs.length ∧ i = .int .i64 k ∧ Hid (Frame [] w wr ∧ ∀ j, j < k → xs[j]? = ys[j]?)) (fun i _ => xs.length - (intOf i).toNat)
    case atStart => exact ⟨0, Nat.zero_le _, rfl, Frame.refl _ _, fun j h => by omega⟩
    case round =>
      obtain ⟨k, hk, rfl, hR⟩ := hrel
      by_cases hlt : k < xs.length
      · have g1 : xs[k]? = some xs[k] := by simp [hlt]
        have hlt2 : k < ys.length := by omega
        have g2 : ys[k]? = some ys[k] := by simp [hlt2]
        obtain ⟨b1, o1, rfl, -, q1⟩ := (H1.out.frame0 hR.out.1) k _ g1
        obtain ⟨b2, o2, rfl, -, q2⟩ := (H2.out.frame0 hR.out.1) k _ g2
        have d1 := q1 0 _ rfl
        have d2 := q2 0 _ rfl
        simp only [Nat.add_zero, Nat.mul_one] at d1 d2
        generalize xs[k] = x at *
        generalize ys[k] = y at *
        have G1 := Lib.hid g1
        have G2 := Lib.hid g2
        clear q1 q2 g1 g2
        by_cases hxy : x = y
        · have hb : (x != y) = false := by simp [hxy]
          have HX := Lib.hid hxy
          clear hxy
          go_wp2_with fail
          go_quiet (fail)
          go_wp2_with fail
          go_roundw
          case rel => exact ⟨k + 1, by omega, by first | rfl | go_num, Lib.hid ⟨hR.out.1.trans1 (by (repeat first | assumption | exact Frame.refl _ _ | refine Frame.trans1 ?_ (Frame.alloc _ _ _) | refine Frame.trans1 ?_ (Frame.drew _ _) | refine Frame.trans1 ?_ (Frame.drewN _ _ _))), fun j hj => by
            rcases Nat.lt_or_ge j k with h | h
            · exact hR.out.2 j h
            · obtain rfl : j = k := by omega
              rw [G1.out, G2.out, HX.out]⟩⟩
          case measure => first | (simp [intOf]; done) | (simp [intOf]; omega)
        · have hb : (x != y) = true := by simp [hxy]
          have HX := Lib.hid hxy
          clear hxy
          go_wp2_with fail
          go_quiet (fail)
          go_wp2_with fail
          go_ret
          refine Ans.mkF (fun e => ?_) (hR.out.1.trans1 (by (repeat first | assumption | exact Frame.refl _ _ | refine Frame.trans1 ?_ (Frame.alloc _ _ _) | refine Frame.trans1 ?_ (Frame.drew _ _) | refine Frame.trans1 ?_ (Frame.drewN _ _ _))))
          subst e
          have := G1.out.symm.trans G2.out
          simp at this
          exact HX.out this
      · obtain rfl : k = xs.length := by omega
        go_wp2_with fail
        go_ret
        refine Ans.mkT (List.ext_getElem? fun j => ?_) (hR.out.1.trans1 (by (repeat first | assumption | exact Frame.refl _ _ | refine Frame.trans1 ?_ (Frame.alloc _ _ _) | refine Frame.trans1 ?_ (Frame.drew _ _) | refine Frame.trans1 ?_ (Frame.drewN _ _ _))))
        rcases Nat.lt_or_ge j xs.length with h | h
        · exact hR.out.2 j h
        · rw [List.getElem?_eq_none h, List.getElem?_eq_none (by omega)]
  · have hn : ((xs.length : Int) != (ys.length : Int)) = true := by simp; omega
    have HL := Lib.hid hlen
    clear hlen
    go_enter Tryz.func27, Tryz.ntmps27
    go_wp2_with fail
    go_ret
    exact Ans.mkF (fun e => HL.out (by rw [e])) (Frame.refl _ _)
end Go.Proofs.YtoidafgeckhkcaaGreat

namespace Go.Proofs.YtoidafgeckhkcaaGreat
open Go.RowKit
set_option linter.unusedSimpArgs false
set_option linter.unusedVariables false

def st15 : List St3 := [⟨1, 0, 0⟩, ⟨1, 1, 0⟩, ⟨2, 2, 3⟩]
def gt15 : List Gt := gatesM st15
theorem gt15_facts : gt15.length = 5 ∧ (cutV (fun t => decide (t ∈ [1])) gt15 (reach gt15 4) (room 10)).e = 0 ∧ (cutV (fun t => decide (t ∈ [1])) gt15 (reach gt15 4) (room 10)).bm 4 = 2 ∧ (cutV (fun t => decide (t ∈ [1])) gt15 (reach gt15 4) (room 10)).l.length = 3 ∧ leastV gt15 4 [1, 2] = [2] := by decide +kernel

theorem rdI_rf {w : World} {a : Option Addr} {xs : List Int} (h : RdI w a xs) : RF (fun _ => True) w 1 encI a xs := fun k x hx => by
  obtain ⟨hk, rfl⟩ := List.getElem?_eq_some_iff.1 hx
  obtain ⟨b, off, h1, h2⟩ := h.at hk
  refine ⟨b, off, h1, trivial, fun j u hu => ?_⟩
  match j, hu with
  | 0, hu =>
    have : u = .int .i64 xs[k] := by simpa [encI] using hu.symm
    rw [this, Nat.mul_one, Nat.add_zero]
    exact h2
  | j + 1, hu => simp [encI] at hu
theorem st15_row (w : World) : RdS (w.alloc (.cells #[.int .i64 1, .int .i64 0, .int .i64 0, .int .i64 1, .int .i64 1, .int .i64 0, .int .i64 2, .int .i64 2, .int .i64 3] 66)) 3 St3.enc St3.ok (some ⟨w.heap.size, 0, none⟩) st15 := by
  have h := Blk.new w 66 #[.int .i64 1, .int .i64 0, .int .i64 0, .int .i64 1, .int .i64 1, .int .i64 0, .int .i64 2, .int .i64 2, .int .i64 3]
  refine .inr ⟨w.heap.size, 0, rfl, by simp, fun k hk => ⟨fun j u hu => ?_, ?_⟩⟩
  · match k, hk, j, hu with
    | 0, _, 0, hu => exact (h.cell 0).trans hu
    | 0, _, 1, hu => exact (h.cell 1).trans hu
    | 0, _, 2, hu => exact (h.cell 2).trans hu
    | 1, _, 0, hu => exact (h.cell 3).trans hu
    | 1, _, 1, hu => exact (h.cell 4).trans hu
    | 1, _, 2, hu => exact (h.cell 5).trans hu
    | 2, _, 0, hu => exact (h.cell 6).trans hu
    | 2, _, 1, hu => exact (h.cell 7).trans hu
    | 2, _, 2, hu => exact (h.cell 8).trans hu
    | 0, _, j + 3, hu => simp [st15, St3.enc] at hu
    | 1, _, j + 3, hu => simp [st15, St3.enc] at hu
    | 2, _, j + 3, hu => simp [st15, St3.enc] at hu
    | k + 3, hk, _, _ => exact absurd hk (by simp [st15])
  · match k, hk with
    | 0, _ => simp [st15, St3.ok, okI]
    | 1, _ => simp [st15, St3.ok, okI]
    | 2, _ => simp [st15, St3.ok, okI]
    | k + 3, hk => exact absurd hk (by simp [st15])

set_option maxHeartbeats 4000000 in
set_option maxRecDepth 100000 in
theorem awake15 (w : World) : Calls Tryz.prog 8 #[] w fun e w' => e = .returned (.bool true) ∧ Frame [] w w' := by
  obtain ⟨p1, p2, p3, p4, p5⟩ := gt15_facts
  have hMA := fun w' a hx => made15_any a 3 st15 w' hx (by decide)
  have hok : MOk (gatesM st15) 3 := gatesM_ok st15
  have HOK := Lib.hid hok
  have e15 : gatesM st15 = gt15 := rfl
  rw [e15] at HOK hMA
  generalize gt15 = l at *
  have MA := Lib.hid hMA
  have P := Lib.hid (And.intro p1 (And.intro p2 (And.intro p3 (And.intro p4 p5))))
  clear hMA hok e15 p1 p2 p3 p4 p5
  go_enter Tryz.func8, Tryz.ntmps8
  go_wp2_with fail
  refine (MA.out _ (some ⟨w.heap.size, 0, none⟩) (st15_row w)).mono ?_
  rintro e w2 ⟨pb, rb, rfl, b2⟩
  obtain ⟨F, F2, s2, -, f2, n2, -⟩ := b2
  have A := Lib.hid (And.intro s2 (And.intro f2 n2))
  clear s2 f2 n2 MA
  have RS := Lib.hid (fun w' (f : Frame [] w2 w') a (h : RdI w' a [1]) (hb : ∀ b off, a = some ⟨b, off, none⟩ → b < w'.heap.size) => restrict_any pb F l (1000 - l.length) HOK.out.inv 4 (by have := P.out.1; omega) (by have := P.out.1; omega) 10 a 1 [1] (by simp) w' (A.out.1.frame0 f) h (fun _ => hb))
  have LS := Lib.hid (fun w' (f : Frame [] w2 w') a (h : RdI w' a [1, 2]) => cutLeast_any pb F l (1000 - l.length) HOK.out.inv 4 (by have := P.out.1; omega) (by have := P.out.1; omega) a 2 [1, 2] w' (A.out.1.frame0 f) h (by simp))
  go_wp2_with fail
  refine (RS.out _ (Frame.alloc _ _ _) (some ⟨w2.heap.size, 0, none⟩) (RdI.one _ _ _) (fun b off e => by simp at e; rw [World.size_alloc]; omega)).mono ?_
  rintro e w3 ⟨hr, -, f3⟩
  obtain ⟨qb, Q, rfl, s3, -⟩ := hr P.out.2.1
  rw [P.out.2.2.1]
  have F3 := Lib.hid ((Frame.alloc [] w2 (.cells #[.int .i64 1] 3)).trans1 f3)
  have LN := Lib.hid s3.lens
  rw [P.out.2.2.2.1] at LN
  clear hr f3 s3 RS
  go_wp2_with fail
  refine (LN.out _ (Frame.refl _ _)).mono ?_
  rintro e w4 ⟨rfl, rfl⟩
  go_wp2_with fail
  refine (LS.out _ (F3.out.trans1 (Frame.alloc _ _ _)) (some ⟨w4.heap.size, 0, none⟩) (RdI.two _ _ _ _)).mono ?_
  rintro e w5 ⟨a5, c5, rfl, r5, f5, -, -⟩
  rw [P.out.2.2.2.2] at r5 ⊢
  have F5 := Lib.hid (F3.out.trans1 ((Frame.alloc [] w4 (.cells #[.int .i64 1, .int .i64 2] 3)).trans1 f5))
  have R5 := Lib.hid r5
  clear f5 r5 LS
  go_wp2_with fail
  refine (Ans.yes (ints_any (fun _ => True) (fun _ => True) a5 (some ⟨w5.heap.size, 0, none⟩) c5 1 [2] [2] _ (rdI_rf (R5.out.frame (Frame.alloc _ _ _))) (rdI_rf (RdI.one _ _ _)) (by simp) (by simp)) rfl).mono ?_
  rintro e w6 ⟨rfl, f6⟩
  go_wp2_with fail
  go_ret
  exact ⟨rfl, ((Frame.alloc [] w _).trans1 A.out.2.1).trans1 (F5.out.trans1 ((Frame.alloc [] w5 _).trans1 f6))⟩
end Go.Proofs.YtoidafgeckhkcaaGreat

namespace Go.Proofs.YtoidafgeckhkcaaGreat
open Go.RowKit
set_option linter.unusedSimpArgs false
set_option linter.unusedVariables false

/-- A gate's making: what it tells where nothing is wrong. -/
def Okp (r : (Int × Int) × List Gt × Int) : Prop := r.1.2 = 0 ∧ 0 ≤ r.1.1 ∧ r.1.1 < r.2.1.length
theorem put_ok {g : Gt} {l : List Gt} {left : Int} (h : 1 ≤ left) : Okp (put g l left) := by
  unfold put
  cases hf : find g l 0 with
  | some k =>
    have := (find_bd hf).2.1
    exact ⟨rfl, by simp, by simp; omega⟩
  | none =>
    simp only
    rw [if_pos h]
    exact ⟨rfl, by simp, by simp; omega⟩
theorem areG_in2 {n : Nat} {a b : Int} (ha : 0 ≤ a ∧ a < n) (hb : 0 ≤ b ∧ b < n) : areG n [a, b] = true := by simp [areG, notG]; omega
theorem areG_in1 {n : Nat} {a : Int} (ha : 0 ≤ a ∧ a < n) : areG n [a] = true := by simp [areG, notG]; omega
theorem var_ok {t : Int} {l : List Gt} {left : Int} (h : 1 ≤ left) (ht : 1 ≤ t) : Okp (mkVar t l left) := by
  unfold mkVar; rw [if_neg (by omega)]; exact put_ok h
theorem plus_ok {a b : Int} {l : List Gt} {left : Int} (h : 1 ≤ left) (ha : 0 ≤ a ∧ a < l.length) (hb : 0 ≤ b ∧ b < l.length) : Okp (mkPlus a b l left) := by
  unfold mkPlus
  rw [if_neg (by rw [areG_in2 ha hb]; simp)]
  split
  · exact ⟨rfl, hb⟩
  · split
    · exact ⟨rfl, ha⟩
    · exact put_ok h
theorem times_ok {a b : Int} {l : List Gt} {left : Int} (h : 1 ≤ left) (h2 : 2 ≤ l.length) (ha : 0 ≤ a ∧ a < l.length) (hb : 0 ≤ b ∧ b < l.length) : Okp (mkTimes a b l left) := by
  have z : (0 : Int) ≤ 0 ∧ (0 : Int) < l.length := by omega
  unfold mkTimes
  rw [if_neg (by rw [areG_in2 ha hb]; simp)]
  split
  · exact ⟨rfl, z⟩
  · split
    · exact ⟨rfl, z⟩
    · split
      · exact ⟨rfl, hb⟩
      · split
        · exact ⟨rfl, ha⟩
        · exact put_ok h
theorem star_ok {a : Int} {l : List Gt} {left : Int} (h : 1 ≤ left) (h2 : 2 ≤ l.length) (ha : 0 ≤ a ∧ a < l.length) : Okp (mkStar a l left) := by
  have z : (0 : Int) ≤ 1 ∧ (1 : Int) < l.length := by omega
  unfold mkStar
  rw [if_neg (by rw [areG_in1 ha]; simp)]
  split
  · exact ⟨rfl, z⟩
  · exact put_ok h
/-- What again keeps. -/
theorem againV_ok {dead : Int → Bool} {bm : Nat → Int} {g : Gt} {l : List Gt} {left : Int} (h : 1 ≤ left) (h2 : 2 ≤ l.length) (h3 : g.k = 3 → 1 ≤ g.a)
    (hk : g.k = 4 ∨ g.k = 5 → (0 ≤ bm g.a.toNat ∧ bm g.a.toNat < l.length) ∧ 0 ≤ bm g.b.toNat ∧ bm g.b.toNat < l.length) (h6 : g.k = 6 → 0 ≤ bm g.a.toNat ∧ bm g.a.toNat < l.length) : Okp (againV dead bm g l left) := by
  have z : (0 : Int) ≤ 0 ∧ (0 : Int) < l.length := by omega
  have o : (0 : Int) ≤ 1 ∧ (1 : Int) < l.length := by omega
  unfold againV
  by_cases k2 : g.k = 2
  · rw [if_pos k2]; exact ⟨rfl, o⟩
  rw [if_neg k2]
  by_cases k3 : g.k = 3
  · rw [if_pos k3]
    split
    · exact ⟨rfl, z⟩
    · exact var_ok h (h3 k3)
  rw [if_neg k3]
  by_cases k4 : g.k = 4
  · rw [if_pos k4]; exact plus_ok h (hk (.inl k4)).1 (hk (.inl k4)).2
  rw [if_neg k4]
  by_cases k5 : g.k = 5
  · rw [if_pos k5]; exact times_ok h h2 (hk (.inr k5)).1 (hk (.inr k5)).2
  rw [if_neg k5]
  by_cases k6 : g.k = 6
  · rw [if_pos k6]; exact star_ok h h2 (h6 k6)
  rw [if_neg k6]; exact ⟨rfl, z⟩
theorem againV_left {dead : Int → Bool} {bm : Nat → Int} {g : Gt} {l : List Gt} (T : Int) : (againV dead bm g l (T - l.length)).2.2 = T - (againV dead bm g l (T - l.length)).2.1.length ∧ l.length ≤ (againV dead bm g l (T - l.length)).2.1.length ∧ (againV dead bm g l (T - l.length)).2.1.length ≤ l.length + 1 := by
  unfold againV
  repeat' split
  all_goals first | exact ⟨rfl, Nat.le_refl _, Nat.le_succ _⟩ | exact mkVar_left _ _ _ | exact mkPlus_left _ _ _ _ | exact mkTimes_left _ _ _ _ | exact mkStar_left _ _ _
theorem againV_inv {dead : Int → Bool} {bm : Nat → Int} {g : Gt} {l : List Gt} {left : Int} (h : Inv l) : Inv (againV dead bm g l left).2.1 := by
  unfold againV
  repeat' split
  · exact h
  · exact h
  · exact ((var_after _).1 l left h).1
  · exact ((plus_after _ _).1 l left h).1
  · exact ((times_after _ _).1 l left h).1
  · exact ((star_after _).1 l left h).1
  · exact h
/-- A cutting so far. -/
structure CInv (T : Int) (s : CutSt) (js : List Nat) : Prop where
  e : s.e = 0
  inv : Inv s.l
  left : s.left = T - s.l.length
  two : 2 ≤ s.l.length
  len : s.l.length ≤ 2 + js.length
  nums : ∀ j ∈ js, 0 ≤ s.bm j ∧ s.bm j < s.l.length
theorem CInv.start (T : Int) : CInv T ⟨fun _ => 0, init, T - 2, 0⟩ [] := ⟨rfl, inv_init, by simp [init], by simp [init], by simp [init], by simp⟩
theorem CInv.step {T : Int} {s : CutSt} {js : List Nat} (h : CInv T s js) {dead : Int → Bool} {l : List Gt} {k : Nat} {g : Gt} (hg : l[k]? = some g) (h3 : g.k = 3 → 1 ≤ g.a)
    (hk : g.k = 4 ∨ g.k = 5 → ∃ a b : Nat, g.a = (a : Int) ∧ g.b = (b : Int) ∧ a ∈ js ∧ b ∈ js) (h6 : g.k = 6 → ∃ a : Nat, g.a = (a : Int) ∧ a ∈ js) (hT : (js.length : Int) + 3 ≤ T) : CInv T (cutStep dead l s k) (js ++ [k]) := by
  have hlen := h.len
  have ok : Okp (againV dead s.bm g s.l s.left) := againV_ok (by rw [h.left]; omega) h.two h3 (fun h4 => by
    obtain ⟨a, b, ha, hb, ma, mb⟩ := hk h4
    rw [ha, hb, Int.toNat_natCast, Int.toNat_natCast]
    exact ⟨h.nums a ma, h.nums b mb⟩) (fun h4 => by
    obtain ⟨a, ha, ma⟩ := h6 h4
    rw [ha, Int.toNat_natCast]
    exact h.nums a ma)
  have le := againV_left (dead := dead) (bm := s.bm) (g := g) (l := s.l) T
  rw [← h.left] at le
  rw [cutStep_at h.e hg]
  refine ⟨ok.1, againV_inv h.inv, le.1, Nat.le_trans h.two le.2.1, ?_, ?_⟩
  · simp only [List.length_append, List.length_cons, List.length_nil]; have := h.len; have := le.2.2; omega
  · intro j hj
    simp only
    by_cases e : j = k
    · rw [if_pos e]; exact ok.2
    · rw [if_neg e]
      rw [List.mem_append] at hj
      rcases hj with hj | hj
      · have := h.nums j hj; have := le.2.1; omega
      · simp at hj; exact absurd hj e
/-- Room for all: nothing goes wrong. -/
theorem cutV_ok {dead : Int → Bool} {l : List Gt} {ks : List Nat} (hC : Closed l ks) (h3 : ∀ g ∈ l, g.k = 3 → 1 ≤ g.a) {T : Int} (hT : (ks.length : Int) + 3 ≤ T) : ∀ t, t ≤ ks.length → CInv T (cutV dead l (ks.take t) (T - 2)) (ks.take t)
  | 0, _ => by rw [List.take_zero]; exact CInv.start T
  | t + 1, ht => by
    have ih := cutV_ok (dead := dead) hC h3 hT t (by omega)
    have hj : ks[t]? = some ks[t] := List.getElem?_eq_getElem (by omega)
    have hkl := hC.lt ks[t] (List.getElem_mem (by omega))
    have hg : l[ks[t]]? = some l[ks[t]] := List.getElem?_eq_getElem hkl
    rw [cutV_next hj, take_one hj]
    exact ih.step hg (h3 _ (List.getElem_mem hkl)) (hC.two t _ _ hj hg) (hC.one t _ _ hj hg) (by rw [List.length_take]; omega)
/-! ### other budgets -/
def Bud (f : List Gt → Int → (Int × Int) × List Gt × Int) : Prop := ∀ (l : List Gt) (T T' : Int), (f l (T - l.length)).1.2 = 0 → (l.length : Int) ≤ T' →
  (((f l (T - l.length)).2.1.length : Int) ≤ T' → f l (T' - l.length) = ((f l (T - l.length)).1, (f l (T - l.length)).2.1, T' - (f l (T - l.length)).2.1.length)) ∧ (T' < (f l (T - l.length)).2.1.length → (f l (T' - l.length)).1.2 = 10)
theorem bud_const (x y : Int) : Bud fun l left => ((x, y), l, left) := fun l T T' h hl => ⟨fun _ => rfl, fun h2 => by simp at h2; omega⟩
theorem bud_put (g : Gt) : Bud (put g) := fun l T T' h hl => by
  unfold put at *
  cases hf : find g l 0 with
  | some k => exact ⟨fun _ => rfl, fun h2 => by simp [hf] at h2; omega⟩
  | none =>
    simp only [hf] at *
    by_cases h1 : 1 ≤ T - l.length
    · rw [if_pos h1] at *
      simp only [List.length_append, List.length_cons, List.length_nil]
      refine ⟨fun h2 => ?_, fun h2 => ?_⟩
      · rw [if_pos (by omega)]
        simp only [Prod.mk.injEq, true_and]
        omega
      · rw [if_neg (by omega)]
    · rw [if_neg h1] at h; simp at h
theorem bud_var (t : Int) : Bud (mkVar t) := fun l T T' h hl => by
  unfold mkVar at *
  by_cases ht : t < 1
  · rw [if_pos ht] at h; simp at h
  · rw [if_neg ht, if_neg ht] at *; exact bud_put _ l T T' h hl
theorem bud_plus (a b : Int) : Bud (mkPlus a b) := fun l T T' h hl => by
  unfold mkPlus at *
  split at h
  · simp at h
  · rename_i h0
    rw [if_neg h0, if_neg h0]
    split at h
    · rename_i h1; rw [if_pos h1, if_pos h1]; exact bud_const b 0 l T T' rfl hl
    · rename_i h1
      rw [if_neg h1, if_neg h1]
      split at h
      · rename_i h2; rw [if_pos h2, if_pos h2]; exact bud_const a 0 l T T' rfl hl
      · rename_i h2; rw [if_neg h2, if_neg h2]; exact bud_put _ l T T' h hl
theorem bud_times (a b : Int) : Bud (mkTimes a b) := fun l T T' h hl => by
  unfold mkTimes at *
  split at h
  · simp at h
  · rename_i h0
    rw [if_neg h0, if_neg h0]
    split at h
    · rename_i h1; rw [if_pos h1, if_pos h1]; exact bud_const 0 0 l T T' rfl hl
    · rename_i h1
      rw [if_neg h1, if_neg h1]
      split at h
      · rename_i h2; rw [if_pos h2, if_pos h2]; exact bud_const 0 0 l T T' rfl hl
      · rename_i h2
        rw [if_neg h2, if_neg h2]
        split at h
        · rename_i h4; rw [if_pos h4, if_pos h4]; exact bud_const b 0 l T T' rfl hl
        · rename_i h4
          rw [if_neg h4, if_neg h4]
          split at h
          · rename_i h5; rw [if_pos h5, if_pos h5]; exact bud_const a 0 l T T' rfl hl
          · rename_i h5; rw [if_neg h5, if_neg h5]; exact bud_put _ l T T' h hl
theorem bud_star (a : Int) : Bud (mkStar a) := fun l T T' h hl => by
  unfold mkStar at *
  split at h
  · simp at h
  · rename_i h0
    rw [if_neg h0, if_neg h0]
    split at h
    · rename_i h1; rw [if_pos h1, if_pos h1]; exact bud_const 1 0 l T T' rfl hl
    · rename_i h1; rw [if_neg h1, if_neg h1]; exact bud_put _ l T T' h hl
theorem bud_again (dead : Int → Bool) (bm : Nat → Int) (g : Gt) : Bud (againV dead bm g) := by
  have e : againV dead bm g = fun l left => if g.k = 2 then ((1, 0), l, left) else if g.k = 3 then (if dead g.a = true then ((0, 0), l, left) else mkVar g.a l left)
    else if g.k = 4 then mkPlus (bm g.a.toNat) (bm g.b.toNat) l left else if g.k = 5 then mkTimes (bm g.a.toNat) (bm g.b.toNat) l left
    else if g.k = 6 then mkStar (bm g.a.toNat) l left else ((0, 0), l, left) := rfl
  rw [e]
  by_cases k2 : g.k = 2
  · simp only [if_pos k2]; exact bud_const 1 0
  simp only [if_neg k2]
  by_cases k3 : g.k = 3
  · simp only [if_pos k3]
    by_cases hd : dead g.a = true
    · simp only [if_pos hd]; exact bud_const 0 0
    · simp only [if_neg hd]; exact bud_var _
  simp only [if_neg k3]
  by_cases k4 : g.k = 4
  · simp only [if_pos k4]; exact bud_plus _ _
  simp only [if_neg k4]
  by_cases k5 : g.k = 5
  · simp only [if_pos k5]; exact bud_times _ _
  simp only [if_neg k5]
  by_cases k6 : g.k = 6
  · simp only [if_pos k6]; exact bud_star _
  simp only [if_neg k6]; exact bud_const 0 0
/-- Two cuttings within other budgets. -/
def BRel (T T' : Int) (s s' : CutSt) : Prop := s.e = 0 ∧ s.left = T - s.l.length ∧ (((s.l.length : Int) ≤ T' ∧ s' = ⟨s.bm, s.l, T' - s.l.length, 0⟩) ∨ (T' < s.l.length ∧ s'.e = 10))
theorem brel_fold {T T' : Int} {dead : Int → Bool} {l : List Gt} : ∀ (ks : List Nat) (s s' : CutSt), BRel T T' s s' → (∀ k ∈ ks, k < l.length) → (ks.foldl (cutStep dead l) s).e = 0 → BRel T T' (ks.foldl (cutStep dead l) s) (ks.foldl (cutStep dead l) s')
  | [], _, _, h, _, _ => h
  | k :: ks, s, s', h, hk, he => by
    rw [List.foldl_cons] at he ⊢
    rw [List.foldl_cons]
    have he1 : (cutStep dead l s k).e = 0 := by
      apply Classical.byContradiction
      intro hn
      rw [cutFold_err hn] at he
      exact hn he
    refine brel_fold ks _ _ ?_ (fun j hj => hk j (by simp [hj])) he
    obtain ⟨h0, h1, h2⟩ := h
    have hg : l[k]? = some (l[k]'(hk k (by simp))) := List.getElem?_eq_getElem _
    generalize l[k]'(hk k (by simp)) = g at hg
    rw [cutStep_at h0 hg] at he1 ⊢
    simp only at he1
    have le := againV_left (dead := dead) (bm := s.bm) (g := g) (l := s.l) T
    rw [← h1] at le
    refine ⟨he1, le.1, ?_⟩
    rcases h2 with ⟨h2, h3⟩ | ⟨h2, h3⟩
    · have hb := bud_again dead s.bm g s.l T T' (by rw [← h1]; exact he1) h2
      rw [← h1] at hb
      subst h3
      rw [cutStep_at rfl hg]
      simp only
      rcases Int.lt_or_le T' (againV dead s.bm g s.l s.left).2.1.length with hlt | hle
      · exact .inr ⟨hlt, hb.2 hlt⟩
      · refine .inl ⟨hle, ?_⟩
        rw [hb.1 hle]
        simp only [CutSt.mk.injEq, true_and]
        exact he1
    · refine .inr ⟨by simp only; have := le.2.1; omega, ?_⟩
      rw [cutStep_err (by rw [h3]; decide)]
      exact h3
theorem cutV_bud {dead : Int → Bool} {l : List Gt} {ks : List Nat} (hk : ∀ k ∈ ks, k < l.length) {T T' : Int} (h2 : 2 ≤ T') (he : (cutV dead l ks (T - 2)).e = 0) :
    (((cutV dead l ks (T - 2)).l.length : Int) ≤ T' → cutV dead l ks (T' - 2) = ⟨(cutV dead l ks (T - 2)).bm, (cutV dead l ks (T - 2)).l, T' - (cutV dead l ks (T - 2)).l.length, 0⟩) ∧ (T' < (cutV dead l ks (T - 2)).l.length → (cutV dead l ks (T' - 2)).e = 10) := by
  have := brel_fold (T := T) (T' := T') (dead := dead) (l := l) ks ⟨fun _ => 0, init, T - 2, 0⟩ ⟨fun _ => 0, init, T' - 2, 0⟩ ⟨rfl, by simp [init], .inl ⟨by simp [init]; omega, by simp [init]⟩⟩ hk he
  obtain ⟨-, -, h⟩ := this
  refine ⟨fun hl => ?_, fun hl => ?_⟩
  · rcases h with ⟨_, h⟩ | ⟨h, _⟩
    · exact h
    · exact absurd hl (by unfold cutV; omega)
  · rcases h with ⟨h, _⟩ | ⟨_, h⟩
    · exact absurd hl (by unfold cutV; omega)
    · exact h
end Go.Proofs.YtoidafgeckhkcaaGreat

namespace Go.Proofs.YtoidafgeckhkcaaGreat
open Go.RowKit
set_option linter.unusedSimpArgs false
set_option linter.unusedVariables false

set_option maxRecDepth 100000 in
theorem cutBudget_out (a : Option Addr) (n cap : Nat) (r : Int) (ta : Option Addr) (tn tc : Nat) (w : World) (h : 40 < n ∨ 20 < tn) (hn : n ≤ 9223372036854775807) (htn : tn ≤ 9223372036854775807) :
    Calls Tryz.prog 3 #[.slice a n cap, .int .i64 r, .slice ta tn tc] w fun e w' => e = .returned (.bool true) ∧ Frame [] w w' := by
  by_cases h1 : 40 < n
  · have d1 : decide ((40 : Int) < n) = true := decide_eq_true (by omega)
    clear h
    go_enter Tryz.func3, Tryz.ntmps3
    go_wp2_with fail
    refine (awake15 _).mono ?_
    rintro e w1 ⟨rfl, f1⟩
    go_wp2_with fail
    go_ret
    exact ⟨rfl, f1⟩
  · have d1 : decide ((40 : Int) < n) = false := decide_eq_false (by omega)
    have d2 : decide ((20 : Int) < tn) = true := decide_eq_true (by omega)
    clear h
    go_enter Tryz.func3, Tryz.ntmps3
    go_wp2_with fail
    refine (awake15 _).mono ?_
    rintro e w1 ⟨rfl, f1⟩
    go_wp2_with fail
    go_ret
    exact ⟨rfl, f1⟩
/-- A number, gone round. -/
theorem round_nat (r : Int) (n : Nat) (hn : 1 ≤ n) : ∃ root : Nat, r % (n : Int) = root ∧ root < n := by
  have h1 := Int.emod_nonneg r (show (n : Int) ≠ 0 by omega)
  have h2 := Int.emod_lt_of_pos r (show (0 : Int) < n by omega)
  exact ⟨(r % n).toNat, by omega, by omega⟩

set_option maxHeartbeats 4000000 in
set_option maxRecDepth 100000 in
theorem cutBudget_in (a : Option Addr) (cap : Nat) (xs : List St3) (r : Int) (ta : Option Addr) (tc : Nat) (ts : List Int) (w : World) (hx : RdS w 3 St3.enc St3.ok a xs) (hl : xs.length ≤ 40) (ht : RdI w ta ts) (htl : ts.length ≤ 20) (hta : ts ≠ [] → ∀ b off, ta = some ⟨b, off, none⟩ → b < w.heap.size) (hr : okI w r) :
    Calls Tryz.prog 3 #[.slice a xs.length cap, .int .i64 r, .slice ta ts.length tc] w fun e w' => e = .returned (.bool true) ∧ Frame [] w w' := by
  have d1 : decide ((40 : Int) < xs.length) = false := decide_eq_false (by omega)
  have d2 : decide ((20 : Int) < ts.length) = false := decide_eq_false (by omega)
  have MA := Lib.hid (made15_any a cap xs w hx (by omega))
  have hok := gatesM_ok xs
  have HT := Lib.hid (And.intro ht hta)
  clear hx ht hta
  generalize gatesM xs = l at *
  have hl1 := hok.len
  have hl2 := hok.two
  have HOK := Lib.hid hok
  clear hok
  go_enter Tryz.func3, Tryz.ntmps3
  go_wp2_with fail
  refine MA.out.mono ?_
  rintro e w2 ⟨pb, rb, rfl, F, F2, s2, r2, f2, n2, -⟩
  obtain ⟨ra, rc, rG, rb1, -, -, -⟩ := r2
  have z0 := rb1.at 0 rfl
  obtain ⟨root, hroot, hrl⟩ := round_nat r l.length (by omega)
  have RA := Lib.hid (fun w => round_any r l.length w (by omega) (by omega) hr.1 hr.2)
  rw [hroot] at RA
  have A := Lib.hid (And.intro s2 f2)
  have LS := Lib.hid s2.lens
  clear s2 f2 n2 rb1 hroot hr MA
  go_wp2_with fail
  refine (RA.out _).mono ?_
  rintro e wq ⟨rfl, rfl⟩
  clear z0 RA
  go_wp2_with fail
  refine (LS.out _ (Frame.refl _ _)).mono ?_
  rintro e wq2 ⟨rfl, rfl⟩
  have RS := Lib.hid (fun w' (f : Frame [] wq2 w') budget => restrict_any pb F l (1000 - l.length) HOK.out.inv root hrl (by omega) budget ta tc ts (by omega) w' (A.out.1.frame0 f) (HT.out.1.frame (A.out.2.trans1 f)) (fun h0 b off e => Nat.lt_of_lt_of_le (HT.out.2 h0 b off e) (A.out.2.trans1 f).size))
  have hkl := reach_len l root
  have hci := cutV_ok (dead := fun t => decide (t ∈ ts)) (reach_closed HOK.out.inv hrl) (fun g hg h3 => (HOK.out.tk g hg h3).1) (T := 1000) (by omega) (reach l root).length (Nat.le_refl _)
  rw [List.take_length] at hci
  have hbud := fun (T' : Int) (h2 : 2 ≤ T') => cutV_bud (dead := fun t => decide (t ∈ ts)) (l := l) (ks := reach l root) (reach_closed HOK.out.inv hrl).lt (T := 1000) (T' := T') h2 hci.e
  have hR := RS.out wq2 (Frame.refl _ _) 1000
  rw [show room 1000 = 1000 - 2 from by decide] at hR
  have hRn := fun w' f (n : Nat) (hn : 2 ≤ n ∧ n ≤ 1000) => RS.out w' f n
  generalize hfin : cutV (fun t => decide (t ∈ ts)) l (reach l root) (1000 - 2) = fin at *
  have he := hci.e
  have hfl := hci.len
  have hf2 := hci.two
  have HR := Lib.hid hR
  have HB := Lib.hid hbud
  clear hfin hci hR hbud hRn
  go_wp2_with fail
  refine HR.out.mono ?_
  rintro e w3 ⟨hres, -, f3⟩
  obtain ⟨qb, Q, rfl, s3, -⟩ := hres he
  have F3 := Lib.hid f3
  have LQ := Lib.hid s3.lens
  clear hres f3 s3 HR
  generalize hbm : fin.bm root = bmr at *
  have HBM := Lib.hid hbm
  clear hbm
  go_wp2_with fail
  refine (LQ.out _ (Frame.refl _ _)).mono ?_
  rintro e wq3 ⟨rfl, rfl⟩
  clear LQ
  generalize hnl : fin.l.length = n at *
  have HNL := Lib.hid hnl
  clear hnl
  have e1 : IntKind.i64.wrap ((n : Int) - 1) = (n : Int) - 1 := IntWalk.i64_in _ (by omega)
  have hR1 := RS.out wq3 F3.out n
  rw [show room (n : Int) = (n : Int) - 2 from by unfold room; omega, (HB.out n (by omega)).1 (by omega)] at hR1
  have HR1 := Lib.hid hR1
  clear hR1
  go_wp2_with fail
  refine HR1.out.mono ?_
  rintro e w4 ⟨hres, -, f4⟩
  obtain ⟨qb4, Q4, rfl, s4, -⟩ := hres rfl
  simp only at s4 ⊢
  rw [HBM.out]
  have F4 := Lib.hid (F3.out.trans1 f4)
  have LQ4 := Lib.hid s4.lens
  rw [HNL.out] at LQ4
  clear hres f4 s4 HR1
  by_cases hn2 : n = 2
  · subst hn2
    have hR2 := RS.out w4 F4.out (((2 : Nat) : Int) - 1)
    rw [show room (((2 : Nat) : Int) - 1) = (2 : Int) - 2 from by decide, (HB.out 2 (by omega)).1 (by omega)] at hR2
    have HR2 := Lib.hid hR2
    clear hR2
    go_wp2_with fail
    refine HR2.out.mono ?_
    rintro e w5 ⟨hres, -, f5⟩
    obtain ⟨qb5, Q5, rfl, s5, -⟩ := hres rfl
    have F5 := Lib.hid (F4.out.trans1 f5)
    clear hres f5 s5 HR2
    go_wp2_with fail
    refine (LS.out _ F5.out).mono ?_
    rintro e wq5 ⟨rfl, rfl⟩
    go_wp2_with fail
    refine (awake15 _).mono ?_
    rintro e w6 ⟨rfl, f6⟩
    go_wp2_with fail
    go_ret
    exact ⟨rfl, (A.out.2.trans1 F5.out).trans1 f6⟩
  · have hR2 := RS.out w4 F4.out ((n : Int) - 1)
    have h10 := (HB.out ((n : Int) - 1) (by omega)).2 (by omega)
    rw [show room ((n : Int) - 1) = (n : Int) - 1 - 2 from by unfold room; omega] at hR2
    generalize cutV (fun t => decide (t ∈ ts)) l (reach l root) ((n : Int) - 1 - 2) = fin2 at *
    have HR2 := Lib.hid hR2
    have H10 := Lib.hid h10
    have hb2 : ((n : Int) == 2) = false := by simp; omega
    clear hR2 h10 hn2
    go_wp2_with fail
    refine HR2.out.mono ?_
    rintro e w5 ⟨-, hres, f5⟩
    obtain rfl := hres (by rw [H10.out]; decide)
    rw [H10.out]
    have F5 := Lib.hid (F4.out.trans1 f5)
    have f45 := Lib.hid f5
    clear hres f5 HR2
    go_wp2_with fail
    refine (LQ4.out _ f45.out).mono ?_
    rintro e wq5 ⟨rfl, rfl⟩
    go_wp2_with fail
    refine (LS.out _ F5.out).mono ?_
    rintro e wq5 ⟨rfl, rfl⟩
    go_wp2_with fail
    refine (awake15 _).mono ?_
    rintro e w6 ⟨rfl, f6⟩
    go_wp2_with fail
    go_ret
    exact ⟨rfl, (A.out.2.trans1 F5.out).trans1 f6⟩
end Go.Proofs.YtoidafgeckhkcaaGreat

