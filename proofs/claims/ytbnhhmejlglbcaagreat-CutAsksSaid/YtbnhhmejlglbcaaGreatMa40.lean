/- The reference's Restrict. (printed by gen_rrestr.py) -/
import Derived.Test.YtbnhhmejlglbcaaGreatMa37
import Derived.Test.YtbnhhmejlglbcaaGreatMa38
import Derived.Test.YtbnhhmejlglbcaaGreatMa39
import Derived.Test.YtbnhhmejlglbcaaGreatMa16
namespace Go.Proofs.YtbnhhmejlglbcaaGreat
open Go.RowKit
set_option linter.unusedSimpArgs false
set_option linter.unusedVariables false

def RRestrEnd (bud : Int) (fin : CutSt) (root : Nat) (w : World) (e : Ending) (w' : World) : Prop :=
  (fin.e = 0 → ∃ qb Q, e = .returned (.tuple #[.pointer (some ⟨qb, 0, none⟩), .int .i64 (fin.bm root), .int .i64 0]) ∧ RSt w' qb Q fin.l bud ∧ ∀ x ∈ Q, w.heap.size ≤ x) ∧
  (fin.e ≠ 0 → e = .returned (.tuple #[.pointer none, .int .i64 0, .int .i64 fin.e])) ∧ Frame [] w w'
/-- The loop's state. -/
structure RRs (w : World) (b b4 : Nat) (ks : List Nat) (bud : Int) (n : Nat) (s : CutSt) (qb : Nat) (t : Nat) (wr : World) (Q : List Nat) : Prop where
  e : s.e = 0
  left : s.left = bud - s.l.length
  len : s.l.length ≤ 2 + t
  st : RSt wr qb Q s.l bud
  row : IRow wr b n s.bm
  fr : Frame [] w wr
  new : ∀ x ∈ Q, w.heap.size ≤ x ∧ x ≠ b ∧ x ≠ b4
  old : w.heap.size ≤ b ∧ b4 ≠ b ∧ b4 < wr.heap.size
  rk : ∀ i j : Nat, ks[i]? = some j → wr.cell? ⟨b4, i, none⟩ = some (.int .i64 (j : Int))
/-- A gate is made again. -/
theorem RRs.made {w : World} {b b4 : Nat} {ks : List Nat} {bud : Int} {n : Nat} {s : CutSt} {qb t : Nat} {wr : World} {Q : List Nat} (h : RRs w b b4 ks bud n s qb t wr Q) {dead : Int → Bool} {l : List Gt} {k : Nat} {g : Gt} (hg : l[k]? = some g) (hk : k < n)
    {w0 w5 w6 : World} (f0 : Frame [] wr w0) {q1 q2 : Int} {ql : List Gt} {qf : Int} (hq : againV dead s.bm g s.l s.left = ((q1, q2), ql, qf)) (he : REnd w0 qb Q ql bud w5) (f6 : Frame [] (w5.setCell ⟨b, k, none⟩ (.int .i64 q1)) w6) (h0 : q2 = 0) :
    ∃ Q', RRs w b b4 ks bud n (cutStep dead l s k) qb (t + 1) w6 Q' := by
  obtain ⟨Q', st5, f5, gr⟩ := he
  have hlt := h.row.lt
  have le := againV_left (dead := dead) (bm := s.bm) (g := g) (l := s.l) bud
  rw [← h.left, hq] at le
  simp only at le
  have hnew : ∀ x ∈ Q', w.heap.size ≤ x ∧ x ≠ b ∧ x ≠ b4 := fun x hx => by
    rcases gr x hx with h1 | h1
    · exact h.new x h1
    · have := f0.size
      have := h.fr.size
      have := h.old.2.2
      exact ⟨by omega, by omega, by omega⟩
  have hb : b ∉ Q := fun hm => (h.new b hm).2.1 rfl
  have hb4 : b4 ∉ Q := fun hm => (h.new b4 hm).2.2 rfl
  have fs : Frame [b] w5 (w5.setCell ⟨b, k, none⟩ (.int .i64 q1)) := Frame.setCell _ _ _ (by simp)
  have f05 : Frame Q wr w5 := (f0.mono (by simp)).trans1 f5
  have s5 := f05.size
  have s6 := f6.size
  have s7 := fs.size
  rw [cutStep_at h.e hg, hq]
  refine ⟨Q', h0, le.1, by have := le.2.2; have := h.len; simp only; omega, ((st5.frame fs (fun x hx => by simp; exact (hnew x hx).2.1)).frame0 f6), ?_, ?_, hnew, ⟨h.old.1, h.old.2.1, by have := h.old.2.2; omega⟩, fun i j hij => ?_⟩
  · exact ((h.row.frame f05 hb).put hk _).frame f6 (by simp)
  · exact ((h.fr.trans f05 (fun x hx => .inr (h.new x hx).1)).trans fs (fun x hx => by simp at hx; subst hx; exact .inr h.old.1)).trans1 f6
  · exact f6.cell (fs.cell (f05.cell (h.rk i j hij) hb4) (by simp; exact h.old.2.1)) (by simp)
/-- What the walk reads after a gate is made. -/
theorem RRs.tail {w : World} {b b4 : Nat} {ks : List Nat} {bud : Int} {n : Nat} {s : CutSt} {qb t : Nat} {wr : World} {Q : List Nat} (h : RRs w b b4 ks bud n s qb t wr Q) {k : Nat} (hk : k < n) (ht : ks[t]? = some k)
    {w0 w5 : World} (f0 : Frame [] wr w0) {ql : List Gt} (he : REnd w0 qb Q ql bud w5) : w5.frozen? ⟨b, k, none⟩ = false ∧ w5.cell? ⟨b, k, none⟩ = some (.int .i64 (s.bm k)) ∧ w5.cell? ⟨b4, t, none⟩ = some (.int .i64 k) ∧ Frame [] w w5 := by
  obtain ⟨Q', st5, f5, gr⟩ := he
  have hb : b ∉ Q := fun hm => (h.new b hm).2.1 rfl
  have hb4 : b4 ∉ Q := fun hm => (h.new b4 hm).2.2 rfl
  have f05 : Frame Q wr w5 := (f0.mono (by simp)).trans1 f5
  have row := h.row.frame f05 hb
  exact ⟨row.frozen k, row.at hk, f05.cell (h.rk t k ht) hb4, h.fr.trans f05 (fun x hx => .inr (h.new x hx).1)⟩
theorem rend_frame {w w0 w5 : World} {qb : Nat} {Q : List Nat} {ql : List Gt} {bud : Int} (f : Frame [] w w0) (h : REnd w0 qb Q ql bud w5) : Frame Q w w5 := let ⟨_, _, f5, _⟩ := h; (f.mono (by simp)).trans1 f5
/-- An error is the end. -/
theorem cutV_halt {dead : Int → Bool} {l : List Gt} {ks : List Nat} {left : Int} {t k : Nat} {g : Gt} (hk : ks[t]? = some k) (hg : l[k]? = some g) (he : (cutV dead l (ks.take t) left).e = 0) (hn : (againV dead (cutV dead l (ks.take t) left).bm g (cutV dead l (ks.take t) left).l (cutV dead l (ks.take t) left).left).1.2 ≠ 0) :
    (cutV dead l ks left).e = (againV dead (cutV dead l (ks.take t) left).bm g (cutV dead l (ks.take t) left).l (cutV dead l (ks.take t) left).left).1.2 := by
  have e1 : cutV dead l ks left = (ks.drop (t + 1)).foldl (cutStep dead l) (cutV dead l (ks.take (t + 1)) left) := by
    unfold cutV; rw [← List.foldl_append, List.take_append_drop]
  rw [cutV_next hk, cutStep_at he hg] at e1
  rw [e1, cutFold_err (by simpa using hn)]

set_option maxHeartbeats 8000000 in
set_option maxRecDepth 100000 in
theorem rrestrict_any (pb : Nat) (F : List Nat) (l : List Gt) (bud0 : Int) (root : Nat) (w : World) (h : RSt w pb F l bud0) (hI : Inv l) (hK : Knd l) (hr : root < l.length) (hlen : l.length ≤ 100000)
    (ta : Option Addr) (tc : Nat) (ts : List Int) (ht : RdI w ta ts) (htl : ts.length ≤ 1000000) (budget : Int) :
    Calls Tryz.prog 35 #[.pointer (some ⟨pb, 0, none⟩), .int .i64 root, .slice ta ts.length tc, .int .i64 budget] w (RRestrEnd (room budget + 2) (cutV (fun t => decide (t ∈ ts)) l (reach l root) (room budget)) root w) := by
  have hri := ris_any h (root : Int)
  have hn : notG l.length (root : Int) = false := by simp [notG]; omega
  rw [hn] at hri
  have RI := Lib.hid hri
  have H := Lib.hid h
  have HI := Lib.hid hI
  have HK := Lib.hid hK
  have HT := Lib.hid ht
  have HC := Lib.hid (reach_closed hI hr)
  have hkl := reach_len l root
  have hroot : root ∈ reach l root := mem_reach.mpr ⟨Nat.le_refl root, reachM_root l root⟩
  have HR := Lib.hid hroot
  have RR := Lib.hid (fun w' (f : Frame [] w w') => rreach_any pb F l bud0 root w' (h.frame0 f) hI hK hr (by omega))
  clear hri hn h hI hK ht hroot
  generalize hks : reach l root = ks at *
  have HKR : Hid (∀ k ∈ ks, k ≤ root) := fun k hk => by rw [← hks] at hk; exact (mem_reach.mp hk).1
  clear hks
  generalize hfin : cutV (fun t => decide (t ∈ ts)) l ks (room budget) = fin at *
  have HFIN := Lib.hid hfin
  clear hfin
  go_enter Tryz.func35, Tryz.ntmps35
  go_wp2_with fail
  refine RI.out.mono ?_
  rintro e w ⟨rfl, rfl⟩
  clear RI
  go_wp2_with fail
  refine (rnew_any budget w).mono ?_
  rintro e w1 ⟨qb, Q, rfl, s1, f1, n1⟩
  have hmk := run_make_ints (root + 1) w1 (by omega)
  rw [show ((root + 1 : Nat) : Int) = (root : Int) + 1 from by omega] at hmk
  have A1 := Lib.hid (And.intro s1 (And.intro f1 n1))
  clear s1 f1 n1
  go_wp2_with fail
  refine (RR.out _ (A1.out.2.1.trans1 (by (repeat first | assumption | exact Frame.refl _ _ | refine Frame.trans1 ?_ (Frame.alloc _ _ _) | refine Frame.trans1 ?_ (Frame.drew _ _) | refine Frame.trans1 ?_ (Frame.drewN _ _ _))))).mono ?_
  rintro e w3 ⟨v, G, rfl, sl3, f3, n3⟩
  have hm0 : IRow (w1.alloc (.cells (Array.replicate (root + 1) (Value.int .i64 0)) 3)) w1.heap.size (root + 1) (fun _ => 0) := IRow.new w1 (root + 1) (by omega)
  have f13 : Frame [] w1 w3 := (Frame.alloc [] _ _).trans1 f3
  have hz1 : w1.heap.size < w3.heap.size := Nat.lt_of_lt_of_le (by simp) f3.size
  obtain ⟨b4, kc, rfl, hG, hb4, hrk⟩ : ∃ b4 kc, v = .slice (some ⟨b4, 0, none⟩) ks.length kc ∧ (w1.heap.size < b4) ∧ b4 < w3.heap.size ∧ ∀ i j : Nat, ks[i]? = some j → w3.cell? ⟨b4, i, none⟩ = some (.int .i64 (j : Int)) := by
    obtain ⟨i0, hi0, hi1⟩ := List.mem_iff_getElem.mp HR.out
    obtain ⟨b4, c4, hq4, hG, hb4, -⟩ := sl3.cell encI_len (k := i0) (x := (root : Int)) (by rw [List.getElem?_map, List.getElem?_eq_getElem hi0, hi1]; rfl)
    rw [List.length_map] at hq4
    refine ⟨b4, c4, hq4, ?_, hb4, fun i j hij => ?_⟩
    · have := n3 b4 (by rw [hG]; simp)
      simp at this; omega
    · obtain ⟨b5, c5, hq5, -, -, k5⟩ := sl3.cell encI_len (k := i) (x := (j : Int)) (by rw [List.getElem?_map, hij]; rfl)
      rw [hq4, List.length_map] at hq5
      simp only [Value.slice.injEq, Option.some.injEq, Addr.mk.injEq] at hq5
      obtain ⟨⟨rfl, -⟩, -, rfl⟩ := hq5
      have := k5 0 _ rfl
      simpa using this
  have r0 : RRs w w1.heap.size b4 ks (room budget + 2) (root + 1) (cutV (fun t => decide (t ∈ ts)) l (ks.take 0) (room budget)) qb 0 w3 Q := by
    refine ⟨by simp [cutV], by simp [cutV, init], by simp [cutV, init], by simpa [cutV] using A1.out.1.frame0 f13, by simpa [cutV] using hm0.frame f3 (by simp), A1.out.2.1.trans1 f13, fun x hx => ⟨A1.out.2.2 x hx, ?_, ?_⟩, ⟨A1.out.2.1.size, by omega, hb4⟩, hrk⟩
    · have := A1.out.1.lt x hx; omega
    · have := A1.out.1.lt x hx; omega
  have R0 := Lib.hid r0
  clear r0 hm0 f13 hz1 sl3 f3 n3 RR hmk A1 hG hb4 hrk
  generalize hb : w1.heap.size = b at *
  clear hb
  go_wp2_with fail
  go_loopw [14] (fun i wr => ∃ (t : Nat) (Q : List Nat) , t ≤ ks.length ∧ i = .int .i64 t ∧ Hid (RRs w b b4 ks (room budget + 2) (root + 1) (cutV (fun t => decide (t ∈ ts)) l (ks.take t) (room budget)) qb t wr Q)) (fun i _ => (ks.length - intOf i).toNat)
  case atStart => exact ⟨0, Q, Nat.zero_le _, rfl, R0⟩
  case round =>
    clear R0
    rename World => wr
    obtain ⟨t, Q, htl2, rfl, hR⟩ := hrel
    by_cases hlt : t < ks.length
    · have hltI : decide ((t : Int) < ks.length) = true := decide_eq_true (by omega)
      have hk : ks[t]? = some ks[t] := List.getElem?_eq_getElem hlt
      have hkl2 := HC.out.lt ks[t] (List.getElem_mem hlt)
      have c2 := fun g => HC.out.two t ks[t] g hk
      have c1 := fun g => HC.out.one t ks[t] g hk
      have hkr : ks[t] ≤ root := HKR.out _ (List.getElem_mem hlt)
      generalize ks[t] = k at *
      have hg : l[k]? = some (l[k]'hkl2) := List.getElem?_eq_getElem hkl2
      have c2 := c2 _ hg
      have c1 := c1 _ hg
      have hgk := HK.out _ (List.getElem_mem hkl2)
      generalize l[k]'hkl2 = g at *
      obtain ⟨b9, c9, x0, x1, x2, x3⟩ := (H.out.frame0 hR.out.fr).cells hg
      have x4 := hR.out.rk t k hk
      generalize hs : cutV (fun t => decide (t ∈ ts)) l (ks.take t) (room budget) = s at *
      have HS := Lib.hid (And.intro hk (And.intro hg hs))
      have HN : Hid (∀ m, (againV (fun t => decide (t ∈ ts)) s.bm g s.l s.left).1.2 = m → m ≠ 0 → fin.e = m) := fun m hm h0 => by
        rw [← HFIN.out, cutV_halt hk hg (by rw [hs]; exact hR.out.e) (by rw [hs, hm]; exact h0), hs, hm]
      clear hk hg hs
      obtain ⟨gk, ga, gb⟩ := g
      simp only at x1 x2 x3 c1 c2 hgk
      have fA : Frame [] wr (wr.alloc (.cells #[.int .i64 0, .int .i64 0, .int .i64 0] 109)) := Frame.alloc _ _ _
      have x0a := fA.cell x0 (by simp)
      have x1a := fA.cell x1 (by simp)
      have x2a := fA.cell x2 (by simp)
      have x3a := fA.cell x3 (by simp)
      have x4a := fA.cell x4 (by simp)
      clear fA
      go_wp2_with fail
      go_region
      clear x0 x1 x2 x3 x0a x1a x2a x3a x4a
      have fB : Frame [] wr (wr.alloc (.cells #[.int .i64 gk, .int .i64 ga, .int .i64 gb] 109)).drew := (Frame.alloc _ _ _).trans1 (Frame.drew _ _)
      have bB := (Blk.new wr 109 #[.int .i64 gk, .int .i64 ga, .int .i64 gb]).drew
      generalize (wr.alloc (.cells #[.int .i64 gk, .int .i64 ga, .int .i64 gb] 109)).drew = wB at *
      generalize hb9 : wr.heap.size = b9 at *
      have HB9 := Lib.hid hb9
      clear hb9
      have x4b := fB.cell x4 (by simp)
      have y0 := bB.at 0 rfl
      have y1 := bB.at 1 rfl
      have y2 := bB.at 2 rfl
      have FB := Lib.hid fB
      have BB := Lib.hid bB
      clear x4 fB bB
      have hkn : k < root + 1 := by omega
      have h6 : gk = 1 ∨ gk = 2 ∨ gk = 3 ∨ gk = 4 ∨ gk = 5 ∨ gk = 6 := by omega
      clear hgk
      rcases h6 with rfl | rfl | rfl | rfl | rfl | rfl
      · have hE := REnd.self (hR.out.st.frame0 FB.out) (Frame.refl _ _)
        obtain ⟨z0, z1, z2, zf⟩ := hR.out.tail hkn HS.out.1 FB.out hE
        have HE := Lib.hid hE
        clear hE zf c1 c2 y1 y2
        go_wp2_with fail
        go_roundw
        case rel =>
          obtain ⟨Q2, hm⟩ := hR.out.made (dead := fun t => decide (t ∈ ts)) HS.out.2.1 hkn FB.out (q1 := 0) (q2 := 0) (qf := s.left) (by simp [againV]) HE.out (Frame.refl _ _) rfl
          exact ⟨t + 1, Q2, by omega, by first | rfl | go_num, Lib.hid (by rw [cutV_next HS.out.1, HS.out.2.2]; exact hm)⟩
        case measure => first | (simp [intOf]; done) | (simp [intOf]; omega)
      · have hE := REnd.self (hR.out.st.frame0 FB.out) (Frame.refl _ _)
        obtain ⟨z0, z1, z2, zf⟩ := hR.out.tail hkn HS.out.1 FB.out hE
        have HE := Lib.hid hE
        clear hE zf c1 c2 y1 y2
        go_wp2_with fail
        go_roundw
        case rel =>
          obtain ⟨Q2, hm⟩ := hR.out.made (dead := fun t => decide (t ∈ ts)) HS.out.2.1 hkn FB.out (q1 := 1) (q2 := 0) (qf := s.left) (by simp [againV]) HE.out (Frame.refl _ _) rfl
          exact ⟨t + 1, Q2, by omega, by first | rfl | go_num, Lib.hid (by rw [cutV_next HS.out.1, HS.out.2.2]; exact hm)⟩
        case measure => first | (simp [intOf]; done) | (simp [intOf]; omega)
      · have HS3 := Lib.hid (fun w' (f : Frame [] wr w') (b' : Nat) (hb' : Blk w' b' 3 #[.int .i64 ga]) => subset_any (some ⟨b', 0, none⟩) ta 1 tc [ga] ts w' (rdI_one hb') (HT.out.frame (hR.out.fr.trans1 f)) (by simp) (by omega))
        have fS : Frame [] wr (wB.alloc (.cells #[.int .i64 ga] 3)) := FB.out.trans1 (Frame.alloc [] _ _)
        have CS := Lib.hid (HS3.out _ fS _ (Blk.new wB 3 #[.int .i64 ga]))
        have FS := Lib.hid fS
        clear HS3 c1 c2 fS
        go_wp2_with fail
        refine CS.out.mono ?_
        rintro e w4 ⟨v, rfl, hv, f4⟩
        have hd : decide (ga ∈ ts) = v := by
          cases v
          · exact decide_eq_false (fun h => by have := hv.mpr (by simpa using h); simp at this)
          · exact decide_eq_true (by simpa using hv.mp rfl)
        have F4 := Lib.hid (FS.out.trans1 f4)
        have u1 := ((BB.out.alloc (.cells #[.int .i64 ga] 3)).frame f4 (by simp)).at 1 rfl
        clear f4 hv CS FS y1 y2
        cases v with
        | true =>
          have hE := REnd.self (hR.out.st.frame0 F4.out) (Frame.refl _ _)
          obtain ⟨z0, z1, z2, zf⟩ := hR.out.tail hkn HS.out.1 F4.out hE
          have HE := Lib.hid hE
          have HD := Lib.hid hd
          clear hE zf hd
          go_wp2_with fail
          go_roundw
          case rel =>
            obtain ⟨Q2, hm⟩ := hR.out.made (dead := fun t => decide (t ∈ ts)) HS.out.2.1 hkn F4.out (q1 := 0) (q2 := 0) (qf := s.left) (by simp only [againV, HD.out]; simp) HE.out (Frame.refl _ _) rfl
            exact ⟨t + 1, Q2, by omega, by first | rfl | go_num, Lib.hid (by rw [cutV_next HS.out.1, HS.out.2.2]; exact hm)⟩
          case measure => first | (simp [intOf]; done) | (simp [intOf]; omega)
        | false =>
          have hq : againV (fun t => decide (t ∈ ts)) s.bm ⟨3, ga, gb⟩ s.l s.left = mkVar ga s.l s.left := by simp [againV, hd]
          have hv : ∀ w1 (f : Frame [] wr w1), _ := fun w1 f => rvar_any (hR.out.st.frame0 f) ga (by have := hR.out.len; omega)
          rw [← hR.out.left] at hv
          generalize mkVar ga s.l s.left = q at *
          obtain ⟨⟨q1, q2⟩, ql, qf⟩ := q
          simp only at hv
          have HV := Lib.hid hv
          have HQ := Lib.hid hq
          clear hv hq
          clear hd
          go_wp2_with fail
          refine (HV.out _ F4.out).mono ?_
          rintro e w5 ⟨rfl, e5⟩
          obtain ⟨z0, z1, z2, zf⟩ := hR.out.tail hkn HS.out.1 F4.out e5
          have E5 := Lib.hid e5
          have ZF := Lib.hid zf
          clear e5 zf
          by_cases h0 : q2 = 0
          · subst h0
            go_wp2_with fail
            go_roundw
            case rel =>
              obtain ⟨Q2, hm⟩ := hR.out.made (dead := fun t => decide (t ∈ ts)) HS.out.2.1 hkn F4.out HQ.out E5.out (Frame.refl _ _) rfl
              exact ⟨t + 1, Q2, by omega, by first | rfl | go_num, Lib.hid (by rw [cutV_next HS.out.1, HS.out.2.2]; exact hm)⟩
            case measure => first | (simp [intOf]; done) | (simp [intOf]; omega)
          · have hb : (q2 == 0) = false := by simp [h0]
            have HE := Lib.hid (HN.out q2 (by rw [HQ.out]) h0)
            have H0 := Lib.hid h0
            clear h0
            go_wp2_with fail
            refine bodyPost_ret (v := .tuple #[.pointer none, .int .i64 0, .int .i64 q2]) (by simp [results, Tryz.results35, go_sem]) rfl ⟨fun h => absurd (HE.out.symm.trans h) H0.out, fun _ => by rw [HE.out], ZF.out⟩
      · obtain ⟨a, c, rfl, rfl, hma, hmc⟩ := c2 (by simp)
        have ra : a < root + 1 := by have := HKR.out a (List.mem_of_mem_take hma); omega
        have rc : c < root + 1 := by have := HKR.out c (List.mem_of_mem_take hmc); omega
        have u1 := (hR.out.row.frame FB.out (by simp)).at ra
        have u2 := (hR.out.row.frame FB.out (by simp)).at rc
        clear hma hmc c1 c2
        have ra2 : a ≤ root := by omega
        have rc2 : c ≤ root := by omega
        have ra3 : (a : Int) ≤ (root : Int) := by omega
        have rc3 : (c : Int) ≤ (root : Int) := by omega
        have ra4 : (a : Int) < (root : Int) + 1 := by omega
        have rc4 : (c : Int) < (root : Int) + 1 := by omega
        have ra5 : (a : Int) ≤ ((root + 1 : Nat) : Int) := by omega
        have rc5 : (c : Int) ≤ ((root + 1 : Nat) : Int) := by omega
        have ra6 : (a : Int) < ((root + 1 : Nat) : Int) := by omega
        have rc6 : (c : Int) < ((root + 1 : Nat) : Int) := by omega
        have ra7 : (0 : Int) ≤ (a : Int) := by omega
        have rc7 : (0 : Int) ≤ (c : Int) := by omega
        have hq : againV (fun t => decide (t ∈ ts)) s.bm ⟨4, (a : Int), (c : Int)⟩ s.l s.left = mkPlus (s.bm a) (s.bm c) s.l s.left := by simp [againV]
        have hv : ∀ w1 (f : Frame [] wr w1), _ := fun w1 f => rplus_any (hR.out.st.frame0 f) (s.bm a) (s.bm c) (by have := hR.out.len; omega)
        rw [← hR.out.left] at hv
        generalize mkPlus (s.bm a) (s.bm c) s.l s.left = q at *
        obtain ⟨⟨q1, q2⟩, ql, qf⟩ := q
        simp only at hv
        have HV := Lib.hid hv
        have HQ := Lib.hid hq
        clear hv hq
        have nb : b ∉ Q := fun hm => (hR.out.new b hm).2.1 rfl
        have nb9 : b9 ∉ Q := fun hm => by have h1 := hR.out.st.lt b9 hm; have h2 := HB9.out; omega
        have v1 : ∀ w', Frame Q wB w' → w'.cell? ⟨b9, 1, none⟩ = some (.int .i64 (a : Int)) := fun w' f => f.cell y1 nb9
        have v2 : ∀ w', Frame Q wB w' → w'.cell? ⟨b9, 2, none⟩ = some (.int .i64 (c : Int)) := fun w' f => f.cell y2 nb9
        have v3 : ∀ w', Frame Q wB w' → w'.cell? ⟨b, a, none⟩ = some (.int .i64 (s.bm a)) := fun w' f => f.cell u1 nb
        have v4 : ∀ w', Frame Q wB w' → w'.cell? ⟨b, c, none⟩ = some (.int .i64 (s.bm c)) := fun w' f => f.cell u2 nb
        clear y1 y2 u1 u2 nb nb9
        go_wp2_with fail
        go_region_held3 (fun w' => Frame Q wB w') ((repeat first | assumption | exact Frame.refl _ _ | refine Frame.trans1 ?_ (Frame.alloc _ _ _) | refine Frame.trans1 ?_ (Frame.drew _ _) | refine Frame.trans1 ?_ (Frame.drewN _ _ _))) ((go_at_call 55; refine (HV.out _ (FB.out.trans1 (by (repeat first | assumption | exact Frame.refl _ _ | refine Frame.trans1 ?_ (Frame.alloc _ _ _) | refine Frame.trans1 ?_ (Frame.drew _ _) | refine Frame.trans1 ?_ (Frame.drewN _ _ _))))).mono ?_; rintro e w5 ⟨rfl, e5⟩; have E5 := Lib.hid e5; have F5 : Frame Q wB w5 := rend_frame (by (repeat first | assumption | exact Frame.refl _ _ | refine Frame.trans1 ?_ (Frame.alloc _ _ _) | refine Frame.trans1 ?_ (Frame.drew _ _) | refine Frame.trans1 ?_ (Frame.drewN _ _ _))) e5; clear e5))
        have hE5 := E5.out
        obtain ⟨z0, z1, z2, zf⟩ := hR.out.tail hkn HS.out.1 (FB.out.trans1 (Frame.drew [] wB)) hE5
        have ZF := Lib.hid zf
        clear zf hE5 v1 v2 v3 v4
        by_cases h0 : q2 = 0
        · subst h0
          go_wp2_with fail
          go_roundw
          case rel =>
            obtain ⟨Q2, hm⟩ := hR.out.made (dead := fun t => decide (t ∈ ts)) HS.out.2.1 hkn (FB.out.trans1 (Frame.drew [] wB)) HQ.out E5.out (Frame.refl _ _) rfl
            exact ⟨t + 1, Q2, by omega, by first | rfl | go_num, Lib.hid (by rw [cutV_next HS.out.1, HS.out.2.2]; exact hm)⟩
          case measure => first | (simp [intOf]; done) | (simp [intOf]; omega)
        · have hb : (q2 == 0) = false := by simp [h0]
          have HE := Lib.hid (HN.out q2 (by rw [HQ.out]) h0)
          have H0 := Lib.hid h0
          clear h0
          go_wp2_with fail
          refine bodyPost_ret (v := .tuple #[.pointer none, .int .i64 0, .int .i64 q2]) (by simp [results, Tryz.results35, go_sem]) rfl ⟨fun h => absurd (HE.out.symm.trans h) H0.out, fun _ => by rw [HE.out], ZF.out⟩
      · obtain ⟨a, c, rfl, rfl, hma, hmc⟩ := c2 (by simp)
        have ra : a < root + 1 := by have := HKR.out a (List.mem_of_mem_take hma); omega
        have rc : c < root + 1 := by have := HKR.out c (List.mem_of_mem_take hmc); omega
        have u1 := (hR.out.row.frame FB.out (by simp)).at ra
        have u2 := (hR.out.row.frame FB.out (by simp)).at rc
        clear hma hmc c1 c2
        have ra2 : a ≤ root := by omega
        have rc2 : c ≤ root := by omega
        have ra3 : (a : Int) ≤ (root : Int) := by omega
        have rc3 : (c : Int) ≤ (root : Int) := by omega
        have ra4 : (a : Int) < (root : Int) + 1 := by omega
        have rc4 : (c : Int) < (root : Int) + 1 := by omega
        have ra5 : (a : Int) ≤ ((root + 1 : Nat) : Int) := by omega
        have rc5 : (c : Int) ≤ ((root + 1 : Nat) : Int) := by omega
        have ra6 : (a : Int) < ((root + 1 : Nat) : Int) := by omega
        have rc6 : (c : Int) < ((root + 1 : Nat) : Int) := by omega
        have ra7 : (0 : Int) ≤ (a : Int) := by omega
        have rc7 : (0 : Int) ≤ (c : Int) := by omega
        have hq : againV (fun t => decide (t ∈ ts)) s.bm ⟨5, (a : Int), (c : Int)⟩ s.l s.left = mkTimes (s.bm a) (s.bm c) s.l s.left := by simp [againV]
        have hv : ∀ w1 (f : Frame [] wr w1), _ := fun w1 f => rtimes_any (hR.out.st.frame0 f) (s.bm a) (s.bm c) (by have := hR.out.len; omega)
        rw [← hR.out.left] at hv
        generalize mkTimes (s.bm a) (s.bm c) s.l s.left = q at *
        obtain ⟨⟨q1, q2⟩, ql, qf⟩ := q
        simp only at hv
        have HV := Lib.hid hv
        have HQ := Lib.hid hq
        clear hv hq
        have nb : b ∉ Q := fun hm => (hR.out.new b hm).2.1 rfl
        have nb9 : b9 ∉ Q := fun hm => by have h1 := hR.out.st.lt b9 hm; have h2 := HB9.out; omega
        have v1 : ∀ w', Frame Q wB w' → w'.cell? ⟨b9, 1, none⟩ = some (.int .i64 (a : Int)) := fun w' f => f.cell y1 nb9
        have v2 : ∀ w', Frame Q wB w' → w'.cell? ⟨b9, 2, none⟩ = some (.int .i64 (c : Int)) := fun w' f => f.cell y2 nb9
        have v3 : ∀ w', Frame Q wB w' → w'.cell? ⟨b, a, none⟩ = some (.int .i64 (s.bm a)) := fun w' f => f.cell u1 nb
        have v4 : ∀ w', Frame Q wB w' → w'.cell? ⟨b, c, none⟩ = some (.int .i64 (s.bm c)) := fun w' f => f.cell u2 nb
        clear y1 y2 u1 u2 nb nb9
        go_wp2_with fail
        go_region_held3 (fun w' => Frame Q wB w') ((repeat first | assumption | exact Frame.refl _ _ | refine Frame.trans1 ?_ (Frame.alloc _ _ _) | refine Frame.trans1 ?_ (Frame.drew _ _) | refine Frame.trans1 ?_ (Frame.drewN _ _ _))) ((go_at_call 57; refine (HV.out _ (FB.out.trans1 (by (repeat first | assumption | exact Frame.refl _ _ | refine Frame.trans1 ?_ (Frame.alloc _ _ _) | refine Frame.trans1 ?_ (Frame.drew _ _) | refine Frame.trans1 ?_ (Frame.drewN _ _ _))))).mono ?_; rintro e w5 ⟨rfl, e5⟩; have E5 := Lib.hid e5; have F5 : Frame Q wB w5 := rend_frame (by (repeat first | assumption | exact Frame.refl _ _ | refine Frame.trans1 ?_ (Frame.alloc _ _ _) | refine Frame.trans1 ?_ (Frame.drew _ _) | refine Frame.trans1 ?_ (Frame.drewN _ _ _))) e5; clear e5))
        have hE5 := E5.out
        obtain ⟨z0, z1, z2, zf⟩ := hR.out.tail hkn HS.out.1 (FB.out.trans1 (Frame.drew [] wB)) hE5
        have ZF := Lib.hid zf
        clear zf hE5 v1 v2 v3 v4
        by_cases h0 : q2 = 0
        · subst h0
          go_wp2_with fail
          go_roundw
          case rel =>
            obtain ⟨Q2, hm⟩ := hR.out.made (dead := fun t => decide (t ∈ ts)) HS.out.2.1 hkn (FB.out.trans1 (Frame.drew [] wB)) HQ.out E5.out (Frame.refl _ _) rfl
            exact ⟨t + 1, Q2, by omega, by first | rfl | go_num, Lib.hid (by rw [cutV_next HS.out.1, HS.out.2.2]; exact hm)⟩
          case measure => first | (simp [intOf]; done) | (simp [intOf]; omega)
        · have hb : (q2 == 0) = false := by simp [h0]
          have HE := Lib.hid (HN.out q2 (by rw [HQ.out]) h0)
          have H0 := Lib.hid h0
          clear h0
          go_wp2_with fail
          refine bodyPost_ret (v := .tuple #[.pointer none, .int .i64 0, .int .i64 q2]) (by simp [results, Tryz.results35, go_sem]) rfl ⟨fun h => absurd (HE.out.symm.trans h) H0.out, fun _ => by rw [HE.out], ZF.out⟩
      · obtain ⟨a, rfl, hma⟩ := c1 rfl
        have ra : a < root + 1 := by have := HKR.out a (List.mem_of_mem_take hma); omega
        have u1 := (hR.out.row.frame FB.out (by simp)).at ra
        clear hma c1 c2
        have hq : againV (fun t => decide (t ∈ ts)) s.bm ⟨6, (a : Int), gb⟩ s.l s.left = mkStar (s.bm a) s.l s.left := by simp [againV]
        have hv : ∀ w1 (f : Frame [] wr w1), _ := fun w1 f => rstar_any (hR.out.st.frame0 f) (s.bm a) (by have := hR.out.len; omega)
        rw [← hR.out.left] at hv
        generalize mkStar (s.bm a) s.l s.left = q at *
        obtain ⟨⟨q1, q2⟩, ql, qf⟩ := q
        simp only at hv
        have HV := Lib.hid hv
        have HQ := Lib.hid hq
        clear hv hq
        go_wp2_with fail
        refine (HV.out _ FB.out).mono ?_
        rintro e w5 ⟨rfl, e5⟩
        obtain ⟨z0, z1, z2, zf⟩ := hR.out.tail hkn HS.out.1 FB.out e5
        have E5 := Lib.hid e5
        have ZF := Lib.hid zf
        clear e5 zf
        by_cases h0 : q2 = 0
        · subst h0
          go_wp2_with fail
          go_roundw
          case rel =>
            obtain ⟨Q2, hm⟩ := hR.out.made (dead := fun t => decide (t ∈ ts)) HS.out.2.1 hkn FB.out HQ.out E5.out (Frame.refl _ _) rfl
            exact ⟨t + 1, Q2, by omega, by first | rfl | go_num, Lib.hid (by rw [cutV_next HS.out.1, HS.out.2.2]; exact hm)⟩
          case measure => first | (simp [intOf]; done) | (simp [intOf]; omega)
        · have hb : (q2 == 0) = false := by simp [h0]
          have HE := Lib.hid (HN.out q2 (by rw [HQ.out]) h0)
          have H0 := Lib.hid h0
          clear h0
          go_wp2_with fail
          refine bodyPost_ret (v := .tuple #[.pointer none, .int .i64 0, .int .i64 q2]) (by simp [results, Tryz.results35, go_sem]) rfl ⟨fun h => absurd (HE.out.symm.trans h) H0.out, fun _ => by rw [HE.out], ZF.out⟩
    · obtain rfl : t = ks.length := by omega
      have hltI : decide ((ks.length : Int) < ks.length) = false := decide_eq_false (by omega)
      have R1 := Lib.hid (show RRs w b b4 ks (room budget + 2) (root + 1) fin qb ks.length wr Q from by have := hR.out; rwa [List.take_length, HFIN.out] at this)
      have y0 := R1.out.row.at (j := root) (by omega)
      have FZ := Lib.hid (Frame.drew [] wr)
      go_wp2_with fail
      go_region
      go_wp2_with fail
      refine bodyPost_ret (v := .tuple #[.pointer (some ⟨qb, 0, none⟩), .int .i64 (fin.bm root), .int .i64 0]) (by simp [results, Tryz.results35, go_sem]) rfl ⟨fun _ => ⟨qb, Q, rfl, R1.out.st.frame0 FZ.out, fun x hx => (R1.out.new x hx).1⟩, fun h => absurd R1.out.e h, R1.out.fr.trans1 FZ.out⟩
end Go.Proofs.YtbnhhmejlglbcaaGreat

