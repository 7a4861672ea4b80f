/- cut.Least, cut.Empty. tansyref22.Ints: are two rows of ints one? (printed by gen_ints2.py) tansylaw15.awake. The law CutBudget, walked. -/
import Derived.Test.YtoidafgeckhkcaaGreatMt38
import Derived.Test.YtoidafgeckhkcaaGreatMt33
import Derived.Test.YtoidafgeckhkcaaGreatMt37
import Derived.IntWalk
import Derived.BigQuiet
import Derived.Test.YtoidafgeckhkcaaGreatMt35
import Derived.Test.YtoidafgeckhkcaaGreatMt40
import Derived.Test.YtoidafgeckhkcaaGreatMt41
namespace Go.Proofs.YtoidafgeckhkcaaGreat
open Go.RowKit
set_option linter.unusedSimpArgs false
set_option linter.unusedVariables false

/-- One token less, where that is enough. -/
def lessC (l : List Gt) (root : Nat) (acc : List Int) (t : Int) : List Int := if truth l root (butI t acc) = true then butI t acc else acc
def leastV (l : List Gt) (root : Nat) (ts : List Int) : List Int := if truth l root (srtI ts) = true then (srtI ts).foldl (lessC l root) (srtI ts) else []
theorem butI_len (n : Int) (xs : List Int) : (butI n xs).length ≤ xs.length := List.length_filter_le _ _
theorem lessC_len (l : List Gt) (root : Nat) (acc : List Int) (t : Int) : (lessC l root acc t).length ≤ acc.length := by
  unfold lessC; split
  · exact butI_len _ _
  · exact Nat.le_refl _
theorem lessC_next {l : List Gt} {root : Nat} {S acc : List Int} {k : Nat} {t : Int} (h : S[k]? = some t) : (S.take (k + 1)).foldl (lessC l root) acc = lessC l root ((S.take k).foldl (lessC l root) acc) t := by
  rw [take_one h, List.foldl_append]; rfl
theorem sl_cap {α : Type} {w : World} {e sz : Nat} {enc : α → List Value} {a : Option Addr} {n c : Nat} {xs : List α} {G : List Nat} (h : Sl w e sz enc (.slice a n c) xs G) : n ≤ c ∧ c ≤ maxLen := by
  rcases h with ⟨h1, _⟩ | ⟨b, cap, h1, _, h3⟩
  · injection h1 with _ e1 e2
    subst e1 e2
    exact ⟨Nat.le_refl _, by unfold maxLen; omega⟩
  · injection h1 with _ e1 e2
    subst e1 e2
    obtain ⟨cs, _, h4, h5, _⟩ := h3.blk
    exact ⟨h4, h5⟩
def RowEndI (xs : List Int) (w : World) (e : Ending) (w' : World) : Prop := ∃ a c, e = .returned (.slice a xs.length c) ∧ RdI w' a xs ∧ Frame [] w w' ∧ xs.length ≤ c ∧ c ≤ maxLen
theorem foldl_len (l : List Gt) (root : Nat) : ∀ (S acc : List Int), (S.foldl (lessC l root) acc).length ≤ acc.length
  | [], acc => Nat.le_refl _
  | t :: S, acc => by rw [List.foldl_cons]; exact Nat.le_trans (foldl_len l root S _) (lessC_len l root acc t)

set_option maxRecDepth 100000 in
set_option maxHeartbeats 4000000 in
theorem cutLeast_any (pb : Nat) (F : List Nat) (l : List Gt) (left : Int) (hI : Inv l) (root : Nat) (hr : root < l.length) (hlen : l.length ≤ 100000)
    (ta : Option Addr) (tc : Nat) (ts : List Int) (w : World) (h : St w pb F l left) (ht : RdI w ta ts) (htl : ts.length ≤ 1000) :
    Calls Tryz.prog 13 #[.pointer (some ⟨pb, 0, none⟩), .int .i64 root, .slice ta ts.length tc] w (RowEndI (leastV l root ts) w) := by
  have AS := Lib.hid (fun w' (f : Frame [] w w') => asorted_any ta tc ts w' (ht.frame f) (by omega))
  have TR := Lib.hid (fun w' (f : Frame [] w w') a c xs (hx : RdI w' a xs) (hl : xs.length ≤ 1000000) => truth_any pb F l left hI root hr hlen a c xs w' (h.frame0 f) hx hl)
  have hSl : (srtI ts).length ≤ 1000 := by
    have := compact_len5 (ts.mergeSort fun x y => decide (x ≤ y))
    rw [List.length_mergeSort] at this
    rw [← srtI_compact ts] at *
    omega
  have HV : Hid (leastV l root ts = if truth l root (srtI ts) = true then (srtI ts).foldl (lessC l root) (srtI ts) else []) := rfl
  generalize srtI ts = S at *
  clear h ht
  go_enter Tryz.func13, Tryz.ntmps13
  go_wp2_with fail
  refine (AS.out _ (Frame.refl _ _)).mono ?_
  rintro e w1 ⟨a1, c1, G1, rfl, s1, f1, -⟩
  have R1 := Lib.hid (And.intro (sl_rdI s1) f1)
  have C1 := Lib.hid (sl_cap s1)
  have T1 := Lib.hid (TR.out w1 f1 a1 c1 S (sl_rdI s1) (by omega))
  clear s1 f1 AS
  generalize hb : truth l root S = b at *
  have HB := Lib.hid hb
  clear hb
  go_wp2_with fail
  refine T1.out.mono ?_
  rintro e w2 ⟨rfl, f2⟩
  have R2 := Lib.hid (And.intro (R1.out.1.frame f2) (R1.out.2.trans1 f2))
  clear f2 R1 T1
  cases b with
  | false =>
    go_wp2_with fail
    go_ret
    exact ⟨none, 0, by rw [HV.out]; rfl, by rw [HV.out]; exact .inl rfl, R2.out.2, by rw [HV.out]; simp, by unfold maxLen; omega⟩
  | true =>
    go_wp2_with fail
    refine (cloneR a1 c1 S w2 R2.out.1 (by omega)).mono ?_
    rintro e w3 ⟨a3, c3, G3, rfl, s3, f3, -⟩
    have R3 := Lib.hid (And.intro (sl_rdI s3) (And.intro (R2.out.1.frame f3) (R2.out.2.trans1 f3)))
    clear s3 f3 R2
    go_wp2_with fail
    go_loopw [7, 9, 10, 21] (fun u _ _ i wr => ∃ (k : Nat) (acc : List Int) (a : Option Addr) (c : Nat), k ≤ S.length ∧ i = .int .i64 k ∧ u = .slice a acc.length c ∧ acc.length ≤ 1000 ∧ Hid (acc = (S.take k).foldl (lessC l root) S ∧ RdI wr a acc ∧ Frame [] w3 wr ∧ acc.length ≤ c ∧ c ≤ maxLen)) (fun _ _ _ i _ => (S.length - intOf i).toNat)
    case atStart => exact ⟨0, S, a1, c1, Nat.zero_le _, rfl, rfl, hSl, Lib.hid ⟨rfl, R3.out.2.1, Frame.refl _ _, C1.out⟩⟩
    case round =>
      rename World => wr
      obtain ⟨k, acc, a, c, hk, rfl, rfl, hal, hR⟩ := hrel
      by_cases hlt : k < S.length
      · have hj : S[k]? = some S[k] := by simp [hlt]
        obtain ⟨b9, off, rfl, x0⟩ : ∃ b off, a3 = some ⟨b, off, none⟩ ∧ wr.cell? ⟨b, off + k, none⟩ = some (.int .i64 S[k]) := by
          rcases R3.out.1.frame hR.out.2.2.1 with h | ⟨b, off, h1, _, h3⟩
          · subst h; simp at hlt
          · exact ⟨b, off, h1, h3 k hlt⟩
        generalize S[k] = x at *
        have CW := Lib.hid (cutwithout_any a c acc x wr hR.out.2.1 (by omega))
        have HJ := Lib.hid (And.intro hj hR.out.1)
        have hbl := butI_len x acc
        have HL : Hid (lessC l root acc x = if truth l root (butI x acc) = true then butI x acc else acc) := rfl
        generalize butI x acc = nx at *
        clear hj
        go_wp2_with fail
        refine CW.out.mono ?_
        rintro e w5 ⟨a5, c5, G5, rfl, s5, f5, -⟩
        have C5 := Lib.hid (sl_cap s5)
        have R5 := Lib.hid (And.intro (sl_rdI s5) (And.intro (hR.out.2.1.frame f5) (hR.out.2.2.1.trans1 f5)))
        have T5 := Lib.hid (TR.out w5 (R3.out.2.2.trans1 R5.out.2.2) a5 c5 nx R5.out.1 (by omega))
        generalize hd : truth l root nx = d at *
        have HD := Lib.hid hd
        clear s5 f5 CW hd
        go_wp2_with fail
        refine T5.out.mono ?_
        rintro e w6 ⟨rfl, f6⟩
        have R6 := Lib.hid (And.intro (R5.out.1.frame f6) (And.intro (R5.out.2.1.frame f6) (R5.out.2.2.trans1 f6)))
        clear f6 R5 T5
        cases d with
        | true =>
          go_wp2_with fail
          go_roundw
          case rel => exact ⟨k + 1, nx, a5, c5, by omega, by first | rfl | go_num, rfl, by omega, Lib.hid ⟨by rw [lessC_next HJ.out.1, ← HJ.out.2, HL.out]; rfl, R6.out.1, R6.out.2.2, C5.out⟩⟩
          case measure => first | (simp [intOf]; done) | (simp [intOf]; omega)
        | false =>
          go_wp2_with fail
          go_roundw
          case rel => exact ⟨k + 1, acc, a, c, by omega, by first | rfl | go_num, rfl, by omega, Lib.hid ⟨by rw [lessC_next HJ.out.1, ← HJ.out.2, HL.out]; rfl, R6.out.2.1, R6.out.2.2, hR.out.2.2.2⟩⟩
          case measure => first | (simp [intOf]; done) | (simp [intOf]; omega)
      · obtain rfl : k = S.length := by omega
        have HE : Hid (acc = leastV l root ts) := by
          show acc = _
          have := hR.out.1
          rw [List.take_length] at this
          rw [HV.out, this]; rfl
        have E := Lib.hid (And.intro hR.out.2.1 (And.intro (R3.out.2.2.trans1 hR.out.2.2.1) hR.out.2.2.2))
        clear hR
        go_wp2_with fail
        go_ret
        exact ⟨a, c, by rw [← HE.out]; rfl, by rw [← HE.out]; exact E.out.1, E.out.2.1, by rw [← HE.out]; exact E.out.2.2⟩
theorem cutEmpty_any (pb : Nat) (F : List Nat) (l : List Gt) (left : Int) (hI : Inv l) (root : Nat) (hr : root < l.length) (hlen : l.length ≤ 100000) (w : World) (h : St w pb F l left) :
    Calls Tryz.prog 16 #[.pointer (some ⟨pb, 0, none⟩), .int .i64 root] w fun e w' => e = .returned (.bool (truth l root [])) ∧ Frame [] w w' := by
  have T := Lib.hid (truth_any pb F l left hI root hr hlen none 0 [] w h (.inl rfl) (by simp))
  clear h
  go_enter Tryz.func16, Tryz.ntmps16
  go_wp2_with fail
  refine T.out.mono ?_
  rintro e w1 ⟨rfl, f1⟩
  go_wp2_with fail
  go_ret
  exact ⟨rfl, f1⟩
end Go.Proofs.YtoidafgeckhkcaaGreat

namespace Go.Proofs.YtoidafgeckhkcaaGreat
open Go.RowKit
set_option linter.unusedSimpArgs false
set_option linter.unusedVariables false

set_option maxHeartbeats 4000000 in
set_option maxRecDepth 100000 in
theorem ints_any (U1 U2 : Nat → Prop) (a1 a2 : Option Addr) (c1 c2 : Nat) (xs ys : List Int) (w : World) (h1 : RF U1 w 1 encI a1 xs) (h2 : RF U2 w 1 encI a2 ys) (l1 : xs.length ≤ 1000000) (l2 : ys.length ≤ 1000000) :
    Calls Tryz.prog 27 #[.slice a1 xs.length c1, .slice a2 ys.length c2] w (Ans (xs = ys) w) := by
  have H1 := Lib.hid h1
  have H2 := Lib.hid h2
  clear h1 h2
  by_cases hlen : xs.length = ys.length
  · have HL := Lib.hid hlen
    have hle : ys.length ≤ xs.length := by omega
    have hge : xs.length ≤ ys.length := by omega
    have hn : ((xs.length : Int) != (ys.length : Int)) = false := by simp [hlen]
    clear hlen
    go_enter Tryz.func27, Tryz.ntmps27
    go_wp2_with fail
    go_loopw [5] (fun i wr => ∃ k : Nat, k ≤ xs.length ∧ i = .int .i64 k ∧ Hid (Frame [] w wr ∧ ∀ j, j < k → xs[j]? = ys[j]?)) (fun i _ => xs.length - (intOf i).toNat)
    case atStart => exact ⟨0, Nat.zero_le _, rfl, Frame.refl _ _, fun j h => by omega⟩
    case round =>
      obtain ⟨k, hk, rfl, hR⟩ := hrel
      by_cases hlt : k < xs.length
      · have g1 : xs[k]? = some xs[k] := by simp [hlt]
        have hlt2 : k < ys.length := by omega
        have g2 : ys[k]? = some ys[k] := by simp [hlt2]
        obtain ⟨b1, o1, rfl, -, q1⟩ := (H1.out.frame0 hR.out.1) k _ g1
        obtain ⟨b2, o2, rfl, -, q2⟩ := (H2.out.frame0 hR.out.1) k _ g2
        have d1 := q1 0 _ rfl
        have d2 := q2 0 _ rfl
        simp only [Nat.add_zero, Nat.mul_one] at d1 d2
        generalize xs[k] = x at *
        generalize ys[k] = y at *
        have G1 := Lib.hid g1
        have G2 := Lib.hid g2
        clear q1 q2 g1 g2
        by_cases hxy : x = y
        · have hb : (x != y) = false := by simp [hxy]
          have HX := Lib.hid hxy
          clear hxy
          go_wp2_with fail
          go_quiet (fail)
          go_wp2_with fail
          go_roundw
          case rel => exact ⟨k + 1, by omega, by first | rfl | go_num, Lib.hid ⟨hR.out.1.trans1 (by (repeat first | assumption | exact Frame.refl _ _ | refine Frame.trans1 ?_ (Frame.alloc _ _ _) | refine Frame.trans1 ?_ (Frame.drew _ _) | refine Frame.trans1 ?_ (Frame.drewN _ _ _))), fun j hj => by
            rcases Nat.lt_or_ge j k with h | h
            · exact hR.out.2 j h
            · obtain rfl : j = k := by omega
              rw [G1.out, G2.out, HX.out]⟩⟩
          case measure => first | (simp [intOf]; done) | (simp [intOf]; omega)
        · have hb : (x != y) = true := by simp [hxy]
          have HX := Lib.hid hxy
          clear hxy
          go_wp2_with fail
          go_quiet (fail)
          go_wp2_with fail
          go_ret
          refine Ans.mkF (fun e => ?_) (hR.out.1.trans1 (by (repeat first | assumption | exact Frame.refl _ _ | refine Frame.trans1 ?_ (Frame.alloc _ _ _) | refine Frame.trans1 ?_ (Frame.drew _ _) | refine Frame.trans1 ?_ (Frame.drewN _ _ _))))
          subst e
          have := G1.out.symm.trans G2.out
          simp at this
          exact HX.out this
      · obtain rfl : k = xs.length := by omega
        go_wp2_with fail
        go_ret
        refine Ans.mkT (List.ext_getElem? fun j => ?_) (hR.out.1.trans1 (by (repeat first | assumption | exact Frame.refl _ _ | refine Frame.trans1 ?_ (Frame.alloc _ _ _) | refine Frame.trans1 ?_ (Frame.drew _ _) | refine Frame.trans1 ?_ (Frame.drewN _ _ _))))
        rcases Nat.lt_or_ge j xs.length with h | h
        · exact hR.out.2 j h
        · rw [List.getElem?_eq_none h, List.getElem?_eq_none (by omega)]
  · have hn : ((xs.length : Int) != (ys.length : Int)) = true := by simp; omega
    have HL := Lib.hid hlen
    clear hlen
    go_enter Tryz.func27, Tryz.ntmps27
    go_wp2_with fail
    go_ret
    exact Ans.mkF (fun e => HL.out (by rw [e])) (Frame.refl _ _)
end Go.Proofs.YtoidafgeckhkcaaGreat

namespace Go.Proofs.YtoidafgeckhkcaaGreat
open Go.RowKit
set_option linter.unusedSimpArgs false
set_option linter.unusedVariables false

def st15 : List St3 := [⟨1, 0, 0⟩, ⟨1, 1, 0⟩, ⟨2, 2, 3⟩]
def gt15 : List Gt := gatesM st15
theorem gt15_facts : gt15.length = 5 ∧ (cutV (fun t => decide (t ∈ [1])) gt15 (reach gt15 4) (room 10)).e = 0 ∧ (cutV (fun t => decide (t ∈ [1])) gt15 (reach gt15 4) (room 10)).bm 4 = 2 ∧ (cutV (fun t => decide (t ∈ [1])) gt15 (reach gt15 4) (room 10)).l.length = 3 ∧ leastV gt15 4 [1, 2] = [2] := by decide +kernel

theorem rdI_rf {w : World} {a : Option Addr} {xs : List Int} (h : RdI w a xs) : RF (fun _ => True) w 1 encI a xs := fun k x hx => by
  obtain ⟨hk, rfl⟩ := List.getElem?_eq_some_iff.1 hx
  obtain ⟨b, off, h1, h2⟩ := h.at hk
  refine ⟨b, off, h1, trivial, fun j u hu => ?_⟩
  match j, hu with
  | 0, hu =>
    have : u = .int .i64 xs[k] := by simpa [encI] using hu.symm
    rw [this, Nat.mul_one, Nat.add_zero]
    exact h2
  | j + 1, hu => simp [encI] at hu
theorem st15_row (w : World) : RdS (w.alloc (.cells #[.int .i64 1, .int .i64 0, .int .i64 0, .int .i64 1, .int .i64 1, .int .i64 0, .int .i64 2, .int .i64 2, .int .i64 3] 66)) 3 St3.enc St3.ok (some ⟨w.heap.size, 0, none⟩) st15 := by
  have h := Blk.new w 66 #[.int .i64 1, .int .i64 0, .int .i64 0, .int .i64 1, .int .i64 1, .int .i64 0, .int .i64 2, .int .i64 2, .int .i64 3]
  refine .inr ⟨w.heap.size, 0, rfl, by simp, fun k hk => ⟨fun j u hu => ?_, ?_⟩⟩
  · match k, hk, j, hu with
    | 0, _, 0, hu => exact (h.cell 0).trans hu
    | 0, _, 1, hu => exact (h.cell 1).trans hu
    | 0, _, 2, hu => exact (h.cell 2).trans hu
    | 1, _, 0, hu => exact (h.cell 3).trans hu
    | 1, _, 1, hu => exact (h.cell 4).trans hu
    | 1, _, 2, hu => exact (h.cell 5).trans hu
    | 2, _, 0, hu => exact (h.cell 6).trans hu
    | 2, _, 1, hu => exact (h.cell 7).trans hu
    | 2, _, 2, hu => exact (h.cell 8).trans hu
    | 0, _, j + 3, hu => simp [st15, St3.enc] at hu
    | 1, _, j + 3, hu => simp [st15, St3.enc] at hu
    | 2, _, j + 3, hu => simp [st15, St3.enc] at hu
    | k + 3, hk, _, _ => exact absurd hk (by simp [st15])
  · match k, hk with
    | 0, _ => simp [st15, St3.ok, okI]
    | 1, _ => simp [st15, St3.ok, okI]
    | 2, _ => simp [st15, St3.ok, okI]
    | k + 3, hk => exact absurd hk (by simp [st15])

set_option maxHeartbeats 4000000 in
set_option maxRecDepth 100000 in
theorem awake15 (w : World) : Calls Tryz.prog 8 #[] w fun e w' => e = .returned (.bool true) ∧ Frame [] w w' := by
  obtain ⟨p1, p2, p3, p4, p5⟩ := gt15_facts
  have hMA := fun w' a hx => made15_any a 3 st15 w' hx (by decide)
  have hok : MOk (gatesM st15) 3 := gatesM_ok st15
  have HOK := Lib.hid hok
  have e15 : gatesM st15 = gt15 := rfl
  rw [e15] at HOK hMA
  generalize gt15 = l at *
  have MA := Lib.hid hMA
  have P := Lib.hid (And.intro p1 (And.intro p2 (And.intro p3 (And.intro p4 p5))))
  clear hMA hok e15 p1 p2 p3 p4 p5
  go_enter Tryz.func8, Tryz.ntmps8
  go_wp2_with fail
  refine (MA.out _ (some ⟨w.heap.size, 0, none⟩) (st15_row w)).mono ?_
  rintro e w2 ⟨pb, rb, rfl, b2⟩
  obtain ⟨F, F2, s2, -, f2, n2, -⟩ := b2
  have A := Lib.hid (And.intro s2 (And.intro f2 n2))
  clear s2 f2 n2 MA
  have RS := Lib.hid (fun w' (f : Frame [] w2 w') a (h : RdI w' a [1]) (hb : ∀ b off, a = some ⟨b, off, none⟩ → b < w'.heap.size) => restrict_any pb F l (1000 - l.length) HOK.out.inv 4 (by have := P.out.1; omega) (by have := P.out.1; omega) 10 a 1 [1] (by simp) w' (A.out.1.frame0 f) h (fun _ => hb))
  have LS := Lib.hid (fun w' (f : Frame [] w2 w') a (h : RdI w' a [1, 2]) => cutLeast_any pb F l (1000 - l.length) HOK.out.inv 4 (by have := P.out.1; omega) (by have := P.out.1; omega) a 2 [1, 2] w' (A.out.1.frame0 f) h (by simp))
  go_wp2_with fail
  refine (RS.out _ (Frame.alloc _ _ _) (some ⟨w2.heap.size, 0, none⟩) (RdI.one _ _ _) (fun b off e => by simp at e; rw [World.size_alloc]; omega)).mono ?_
  rintro e w3 ⟨hr, -, f3⟩
  obtain ⟨qb, Q, rfl, s3, -⟩ := hr P.out.2.1
  rw [P.out.2.2.1]
  have F3 := Lib.hid ((Frame.alloc [] w2 (.cells #[.int .i64 1] 3)).trans1 f3)
  have LN := Lib.hid s3.lens
  rw [P.out.2.2.2.1] at LN
  clear hr f3 s3 RS
  go_wp2_with fail
  refine (LN.out _ (Frame.refl _ _)).mono ?_
  rintro e w4 ⟨rfl, rfl⟩
  go_wp2_with fail
  refine (LS.out _ (F3.out.trans1 (Frame.alloc _ _ _)) (some ⟨w4.heap.size, 0, none⟩) (RdI.two _ _ _ _)).mono ?_
  rintro e w5 ⟨a5, c5, rfl, r5, f5, -, -⟩
  rw [P.out.2.2.2.2] at r5 ⊢
  have F5 := Lib.hid (F3.out.trans1 ((Frame.alloc [] w4 (.cells #[.int .i64 1, .int .i64 2] 3)).trans1 f5))
  have R5 := Lib.hid r5
  clear f5 r5 LS
  go_wp2_with fail
  refine (Ans.yes (ints_any (fun _ => True) (fun _ => True) a5 (some ⟨w5.heap.size, 0, none⟩) c5 1 [2] [2] _ (rdI_rf (R5.out.frame (Frame.alloc _ _ _))) (rdI_rf (RdI.one _ _ _)) (by simp) (by simp)) rfl).mono ?_
  rintro e w6 ⟨rfl, f6⟩
  go_wp2_with fail
  go_ret
  exact ⟨rfl, ((Frame.alloc [] w _).trans1 A.out.2.1).trans1 (F5.out.trans1 ((Frame.alloc [] w5 _).trans1 f6))⟩
end Go.Proofs.YtoidafgeckhkcaaGreat

namespace Go.Proofs.YtoidafgeckhkcaaGreat
open Go.RowKit
set_option linter.unusedSimpArgs false
set_option linter.unusedVariables false

set_option maxRecDepth 100000 in
theorem cutBudget_out (a : Option Addr) (n cap : Nat) (r : Int) (ta : Option Addr) (tn tc : Nat) (w : World) (h : 40 < n ∨ 20 < tn) (hn : n ≤ 9223372036854775807) (htn : tn ≤ 9223372036854775807) :
    Calls Tryz.prog 3 #[.slice a n cap, .int .i64 r, .slice ta tn tc] w fun e w' => e = .returned (.bool true) ∧ Frame [] w w' := by
  by_cases h1 : 40 < n
  · have d1 : decide ((40 : Int) < n) = true := decide_eq_true (by omega)
    clear h
    go_enter Tryz.func3, Tryz.ntmps3
    go_wp2_with fail
    refine (awake15 _).mono ?_
    rintro e w1 ⟨rfl, f1⟩
    go_wp2_with fail
    go_ret
    exact ⟨rfl, f1⟩
  · have d1 : decide ((40 : Int) < n) = false := decide_eq_false (by omega)
    have d2 : decide ((20 : Int) < tn) = true := decide_eq_true (by omega)
    clear h
    go_enter Tryz.func3, Tryz.ntmps3
    go_wp2_with fail
    refine (awake15 _).mono ?_
    rintro e w1 ⟨rfl, f1⟩
    go_wp2_with fail
    go_ret
    exact ⟨rfl, f1⟩
/-- A number, gone round. -/
theorem round_nat (r : Int) (n : Nat) (hn : 1 ≤ n) : ∃ root : Nat, r % (n : Int) = root ∧ root < n := by
  have h1 := Int.emod_nonneg r (show (n : Int) ≠ 0 by omega)
  have h2 := Int.emod_lt_of_pos r (show (0 : Int) < n by omega)
  exact ⟨(r % n).toNat, by omega, by omega⟩

set_option maxHeartbeats 4000000 in
set_option maxRecDepth 100000 in
theorem cutBudget_in (a : Option Addr) (cap : Nat) (xs : List St3) (r : Int) (ta : Option Addr) (tc : Nat) (ts : List Int) (w : World) (hx : RdS w 3 St3.enc St3.ok a xs) (hl : xs.length ≤ 40) (ht : RdI w ta ts) (htl : ts.length ≤ 20) (hta : ts ≠ [] → ∀ b off, ta = some ⟨b, off, none⟩ → b < w.heap.size) (hr : okI w r) :
    Calls Tryz.prog 3 #[.slice a xs.length cap, .int .i64 r, .slice ta ts.length tc] w fun e w' => e = .returned (.bool true) ∧ Frame [] w w' := by
  have d1 : decide ((40 : Int) < xs.length) = false := decide_eq_false (by omega)
  have d2 : decide ((20 : Int) < ts.length) = false := decide_eq_false (by omega)
  have MA := Lib.hid (made15_any a cap xs w hx (by omega))
  have hok := gatesM_ok xs
  have HT := Lib.hid (And.intro ht hta)
  clear hx ht hta
  generalize gatesM xs = l at *
  have hl1 := hok.len
  have hl2 := hok.two
  have HOK := Lib.hid hok
  clear hok
  go_enter Tryz.func3, Tryz.ntmps3
  go_wp2_with fail
  refine MA.out.mono ?_
  rintro e w2 ⟨pb, rb, rfl, F, F2, s2, r2, f2, n2, -⟩
  obtain ⟨ra, rc, rG, rb1, -, -, -⟩ := r2
  have z0 := rb1.at 0 rfl
  obtain ⟨root, hroot, hrl⟩ := round_nat r l.length (by omega)
  have RA := Lib.hid (fun w => round_any r l.length w (by omega) (by omega) hr.1 hr.2)
  rw [hroot] at RA
  have A := Lib.hid (And.intro s2 f2)
  have LS := Lib.hid s2.lens
  clear s2 f2 n2 rb1 hroot hr MA
  go_wp2_with fail
  refine (RA.out _).mono ?_
  rintro e wq ⟨rfl, rfl⟩
  clear z0 RA
  go_wp2_with fail
  refine (LS.out _ (Frame.refl _ _)).mono ?_
  rintro e wq2 ⟨rfl, rfl⟩
  have RS := Lib.hid (fun w' (f : Frame [] wq2 w') budget => restrict_any pb F l (1000 - l.length) HOK.out.inv root hrl (by omega) budget ta tc ts (by omega) w' (A.out.1.frame0 f) (HT.out.1.frame (A.out.2.trans1 f)) (fun h0 b off e => Nat.lt_of_lt_of_le (HT.out.2 h0 b off e) (A.out.2.trans1 f).size))
  have hkl := reach_len l root
  have hci := cutV_ok (dead := fun t => decide (t ∈ ts)) (reach_closed HOK.out.inv hrl) (fun g hg h3 => (HOK.out.tk g hg h3).1) (T := 1000) (by omega) (reach l root).length (Nat.le_refl _)
  rw [List.take_length] at hci
  have hbud := fun (T' : Int) (h2 : 2 ≤ T') => cutV_bud (dead := fun t => decide (t ∈ ts)) (l := l) (ks := reach l root) (reach_closed HOK.out.inv hrl).lt (T := 1000) (T' := T') h2 hci.e
  have hR := RS.out wq2 (Frame.refl _ _) 1000
  rw [show room 1000 = 1000 - 2 from by decide] at hR
  have hRn := fun w' f (n : Nat) (hn : 2 ≤ n ∧ n ≤ 1000) => RS.out w' f n
  generalize hfin : cutV (fun t => decide (t ∈ ts)) l (reach l root) (1000 - 2) = fin at *
  have he := hci.e
  have hfl := hci.len
  have hf2 := hci.two
  have HR := Lib.hid hR
  have HB := Lib.hid hbud
  clear hfin hci hR hbud hRn
  go_wp2_with fail
  refine HR.out.mono ?_
  rintro e w3 ⟨hres, -, f3⟩
  obtain ⟨qb, Q, rfl, s3, -⟩ := hres he
  have F3 := Lib.hid f3
  have LQ := Lib.hid s3.lens
  clear hres f3 s3 HR
  generalize hbm : fin.bm root = bmr at *
  have HBM := Lib.hid hbm
  clear hbm
  go_wp2_with fail
  refine (LQ.out _ (Frame.refl _ _)).mono ?_
  rintro e wq3 ⟨rfl, rfl⟩
  clear LQ
  generalize hnl : fin.l.length = n at *
  have HNL := Lib.hid hnl
  clear hnl
  have e1 : IntKind.i64.wrap ((n : Int) - 1) = (n : Int) - 1 := IntWalk.i64_in _ (by omega)
  have hR1 := RS.out wq3 F3.out n
  rw [show room (n : Int) = (n : Int) - 2 from by unfold room; omega, (HB.out n (by omega)).1 (by omega)] at hR1
  have HR1 := Lib.hid hR1
  clear hR1
  go_wp2_with fail
  refine HR1.out.mono ?_
  rintro e w4 ⟨hres, -, f4⟩
  obtain ⟨qb4, Q4, rfl, s4, -⟩ := hres rfl
  simp only at s4 ⊢
  rw [HBM.out]
  have F4 := Lib.hid (F3.out.trans1 f4)
  have LQ4 := Lib.hid s4.lens
  rw [HNL.out] at LQ4
  clear hres f4 s4 HR1
  by_cases hn2 : n = 2
  · subst hn2
    have hR2 := RS.out w4 F4.out (((2 : Nat) : Int) - 1)
    rw [show room (((2 : Nat) : Int) - 1) = (2 : Int) - 2 from by decide, (HB.out 2 (by omega)).1 (by omega)] at hR2
    have HR2 := Lib.hid hR2
    clear hR2
    go_wp2_with fail
    refine HR2.out.mono ?_
    rintro e w5 ⟨hres, -, f5⟩
    obtain ⟨qb5, Q5, rfl, s5, -⟩ := hres rfl
    have F5 := Lib.hid (F4.out.trans1 f5)
    clear hres f5 s5 HR2
    go_wp2_with fail
    refine (LS.out _ F5.out).mono ?_
    rintro e wq5 ⟨rfl, rfl⟩
    go_wp2_with fail
    refine (awake15 _).mono ?_
    rintro e w6 ⟨rfl, f6⟩
    go_wp2_with fail
    go_ret
    exact ⟨rfl, (A.out.2.trans1 F5.out).trans1 f6⟩
  · have hR2 := RS.out w4 F4.out ((n : Int) - 1)
    have h10 := (HB.out ((n : Int) - 1) (by omega)).2 (by omega)
    rw [show room ((n : Int) - 1) = (n : Int) - 1 - 2 from by unfold room; omega] at hR2
    generalize cutV (fun t => decide (t ∈ ts)) l (reach l root) ((n : Int) - 1 - 2) = fin2 at *
    have HR2 := Lib.hid hR2
    have H10 := Lib.hid h10
    have hb2 : ((n : Int) == 2) = false := by simp; omega
    clear hR2 h10 hn2
    go_wp2_with fail
    refine HR2.out.mono ?_
    rintro e w5 ⟨-, hres, f5⟩
    obtain rfl := hres (by rw [H10.out]; decide)
    rw [H10.out]
    have F5 := Lib.hid (F4.out.trans1 f5)
    have f45 := Lib.hid f5
    clear hres f5 HR2
    go_wp2_with fail
    refine (LQ4.out _ f45.out).mono ?_
    rintro e wq5 ⟨rfl, rfl⟩
    go_wp2_with fail
    refine (LS.out _ F5.out).mono ?_
    rintro e wq5 ⟨rfl, rfl⟩
    go_wp2_with fail
    refine (awake15 _).mono ?_
    rintro e w6 ⟨rfl, f6⟩
    go_wp2_with fail
    go_ret
    exact ⟨rfl, (A.out.2.trans1 F5.out).trans1 f6⟩
end Go.Proofs.YtoidafgeckhkcaaGreat

