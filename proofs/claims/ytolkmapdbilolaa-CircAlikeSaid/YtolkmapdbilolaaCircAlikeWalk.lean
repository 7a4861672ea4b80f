/- The law CircAlike, walked. -/
import Derived.Test.YtolkmapdbilolaaAlikePure
import Derived.Test.YtolkmapdbilolaaSmall13
import Derived.Test.YtolkmapdbilolaaRound
import Derived.Test.YtolkmapdbilolaaSl
import Derived.Test.YtolkmapdbilolaaQb
namespace Go.Proofs.Ytolkmapdbilolaa
open Go.RowKit
set_option linter.unusedSimpArgs false
set_option linter.unusedVariables false

theorem encG_len (g : Gt) : g.cs.length = 3 := rfl
theorem encG_one (g : Gt) : ∀ u ∈ g.cs, u.oneCell' = true := by simp [Gt.cs, Value.oneCell']

theorem GK.drop {w wr : World} {pb : Nat} {KB : List Nat} {Kp : World → Prop} {l : List Gt} {left : Int} (h : GK w pb KB Kp l left wr) : GK w pb [] (fun _ => True) l left wr := by
  obtain ⟨F, a, b, c, _, _, d⟩ := h
  exact ⟨F, a, b, c, trivial, by simp, d⟩

/-- The gates that have been gathered. -/
def Col (w : World) (pb : Nat) (l : List Gt) (left : Int) (k : Nat) (v : Value) (wq : World) : Prop :=
  ∃ F G, St wq pb F l left ∧ Frame [] w wq ∧ (∀ x ∈ F, w.heap.size ≤ x) ∧ Sl wq 39 3 Gt.cs v (l.take k) G ∧ ∀ x ∈ G, x ∉ F ∧ w.heap.size ≤ x

/-- .. and the next gate's variable. -/
def Col2 (w : World) (pb : Nat) (l : List Gt) (left : Int) (k : Nat) (a9 : Option Addr) (c9 gb : Nat) (g : Gt) (wq : World) : Prop :=
  ∃ F G, St wq pb F l left ∧ Frame [] w wq ∧ (∀ x ∈ F, w.heap.size ≤ x) ∧ Sl wq 39 3 Gt.cs (.slice a9 k c9) (l.take k) G ∧ (∀ x ∈ G, x ∉ F ∧ w.heap.size ≤ x) ∧ Blk wq gb 39 #[.int .i64 g.k, .int .i64 g.a, .int .i64 g.b] ∧ gb ∉ F ∧ gb ∉ G
theorem Col2.quiet {w wq wr : World} {pb k c9 gb : Nat} {l : List Gt} {left : Int} {a9 : Option Addr} {g : Gt} (h : Col2 w pb l left k a9 c9 gb g wq) (f : Frame [] wq wr) : Col2 w pb l left k a9 c9 gb g wr := by
  obtain ⟨F, G, a, b, c, d, e, i, j⟩ := h
  exact ⟨F, G, a.frame0 f, b.trans1 f, c, d.frame0 f, e, i.frame f (by simp), j⟩
theorem run_gate_eql (g h : Gt) (w : World) : (binOp .eql 39 g.val h.val).run Try.prog w = .ok (.bool (decide (g = h))) w := by
  have := equal_gate g h w
  simp only [Gt.val] at *
  simp [binOp, this]

set_option maxRecDepth 100000 in
theorem circAlike_out (a : Option Addr) (cap : Nat) (xs : List Stp) (w : World) (hx : RdS w 4 Stp.enc Stp.ok a xs) (hl : xs.length ≤ 9223372036854775807) (hs : smallB xs = false) :
    Calls Try.prog 4 #[.slice a xs.length cap] w fun e w' => e = .returned (.bool true) ∧ Frame [] w w' := by
  have h := small_any a cap xs w hx hl
  rw [hs] at h
  have H := Lib.hid h
  clear h hx hs
  go_enter Try.func4, Try.ntmps4
  go_wp2_with fail
  refine H.out.mono ?_
  rintro e w1 ⟨rfl, f1⟩
  go_wp2_with fail
  refine (awake13 _).mono ?_
  rintro e w2 ⟨rfl, f2⟩
  go_wp2_with fail
  go_ret
  exact ⟨rfl, f1.trans1 f2⟩

set_option maxRecDepth 100000 in
set_option maxHeartbeats 4000000 in
theorem circAlike_in (a : Option Addr) (cap : Nat) (xs : List Stp) (w : World) (hx : RdS w 4 Stp.enc Stp.ok a xs) (hl : xs.length ≤ 250) (hs : smallB xs = true) :
    Calls Try.prog 4 #[.slice a xs.length cap] w fun e w' => e = .returned (.bool true) ∧ Frame [] w w' := by
  have h := small_any a cap xs w hx (by omega)
  rw [hs] at h
  have H := Lib.hid h
  have HX := Lib.hid hx
  clear h hx hs
  go_enter Try.func4, Try.ntmps4
  go_wp2_with fail
  refine H.out.mono ?_
  rintro e w1 ⟨rfl, f1⟩
  clear H
  go_wp2_with fail
  refine (new_any 2000 _).mono ?_
  rintro e w2 ⟨pb, rfl, F2, s2, f2, n2⟩
  rw [show room 2000 = 1998 from by decide] at s2
  have O := Lib.hid (show GK w pb [] (fun _ => True) init 1998 w2 from ⟨F2, s2, f1.trans1 f2, fun x hx => by have := n2 x hx; have := f1.size; omega, trivial, by simp, by simp [init]⟩)
  clear s2 f2 n2 f1
  go_wp2_with fail
  go_loopw [4] (fun i wr => ∃ (j : Nat) (l : List Gt) (left : Int), j ≤ xs.length ∧ i = .int .i64 j ∧ l.length ≤ j + 2 ∧ Hid (GK w pb [] (fun _ => True) l left wr ∧ Inv l)) (fun i _ => xs.length - (intOf i).toNat)
  case atStart => exact ⟨0, init, 1998, Nat.zero_le _, rfl, by simp [init], O.out, inv_init⟩
  case round =>
    obtain ⟨j, l, left, hj, rfl, hll, hG⟩ := hrel
    by_cases hlt : j < xs.length
    · obtain ⟨b, off, rfl, hc, hok⟩ := (HX.out.frame hG.out.1.frame (fun x => Stp.ok_frame hG.out.1.frame x)).at hlt
      have c0 := hc 0 _ rfl
      have c1 := hc 1 _ rfl
      have c2 := hc 2 _ rfl
      have c3 := hc 3 _ rfl
      simp only [Nat.add_zero] at c0
      generalize xs[j] = s at *
      have hlen := hG.out.1.len
      have hl2 := hG.out.2.good.len
      have ra := round_any s.a l.length
      have rb := round_any s.b l.length
      have a0 := Int.emod_nonneg s.a (show (l.length : Int) ≠ 0 by omega)
      have a1 := Int.emod_lt_of_pos s.a (show 0 < (l.length : Int) by omega)
      have b0 := Int.emod_nonneg s.b (show (l.length : Int) ≠ 0 by omega)
      have b1 := Int.emod_lt_of_pos s.b (show 0 < (l.length : Int) by omega)
      have okk := Lib.hid hok
      generalize s.a % (l.length : Int) = A at *
      generalize s.b % (l.length : Int) = B at *
      have RA := Lib.hid ra
      have RB := Lib.hid rb
      clear hc hok ra rb O
      go_wp2_with fail
      refine hlen.mono ?_
      clear hlen
      rintro e w3 ⟨rfl, rfl⟩
      go_wp2_with fail
      refine (RA.out _ (by omega) (by omega) okk.out.2.1.1 okk.out.2.1.2).mono ?_
      rintro e w4 ⟨rfl, rfl⟩
      go_wp2_with fail
      refine (RB.out _ (by omega) (by omega) okk.out.2.2.1.1 okk.out.2.2.1.2).mono ?_
      rintro e w4 ⟨rfl, rfl⟩
      clear RA RB
      go_wp2_with fail
      obtain ⟨op, hopd⟩ : ∃ op, Hid (opA s.kind A B = op) := ⟨_, rfl⟩
      have haf := opA_after s.kind A B
      rw [hopd.out] at haf
      have hI := haf.1 l left hG.out.2
      have hTw := Lib.hid (haf.2 l left hG.out.2)
      have hI1 : (op l left).2.1.length ≤ l.length + 1 := hI.2.1
      have hI2 : 2 ≤ (op l left).2.1.length := by have := hI.2.2; omega
      have hI3 : l.length ≤ (op l left).2.1.length := hI.2.2
      have HI := Lib.hid hI.1
      clear haf hI
      have fx : Frame [] w3 (w3.alloc (.cells #[.int .i64 s.kind, .int .i64 A, .int .i64 B, .slice s.la s.l.length s.lcap] 34)) := Frame.alloc _ _ _
      have g0 : GK w pb [w3.heap.size] (fun wq => Blk wq w3.heap.size 34 #[.int .i64 s.kind, .int .i64 A, .int .i64 B, .slice s.la s.l.length s.lcap]) l left (w3.alloc (.cells #[.int .i64 s.kind, .int .i64 A, .int .i64 B, .slice s.la s.l.length s.lcap] 34)) := by
        obtain ⟨F, q1, q2, q3, q4, q5, q6⟩ := hG.out.1
        exact ⟨F, q1.frame0 fx, q2.trans1 fx, q3, Blk.new _ _ _, fun x hx hm => by simp at hx; subst hx; exact absurd (q1.lt _ hm) (by simp), q6⟩
      have G0 := Lib.hid g0
      clear g0 fx
      go_loopw [7] (fun i wq => ∃ kk : Nat, kk ≤ 2 ∧ i = .int .i64 kk ∧ Hid (GK w pb [w3.heap.size] (fun wq => Blk wq w3.heap.size 34 #[.int .i64 s.kind, .int .i64 A, .int .i64 B, .slice s.la s.l.length s.lcap]) (if kk = 0 then l else (op l left).2.1) (if kk = 0 then left else (op l left).2.2) wq)) (fun i _ => 2 - (intOf i).toNat)
      case atStart => exact ⟨0, by omega, rfl, G0⟩
      case round =>
        rename World => wq
        obtain ⟨kk, hkk, rfl, hG2⟩ := hrel
        obtain ⟨FF, _, fq, _, hB, _⟩ := id hG2.out
        have d0 := hB.at 0 rfl
        have d1 := hB.at 1 rfl
        have d2 := hB.at 2 rfl
        clear hB fq c0 c1 c2 c3
        rcases (by omega : kk = 0 ∨ kk = 1 ∨ kk = 2) with rfl | rfl | rfl
        · simp only [if_true] at hG2
          rcases (by omega : s.kind = 1 ∨ s.kind = 2 ∨ s.kind = 3 ∨ s.kind = 4 ∨ (s.kind ≠ 1 ∧ s.kind ≠ 2 ∧ s.kind ≠ 3 ∧ s.kind ≠ 4)) with hkd | hkd | hkd | hkd | hkd
          · have k1 : (s.kind == 1) = true := by simp [hkd]
            have k2 : (s.kind == 2) = false := by simp [hkd]
            have k3 : (s.kind == 3) = false := by simp [hkd]
            have k4 : (s.kind == 4) = false := by simp [hkd]
            have hop : op = mkVar (A + 1) := by rw [← hopd.out]; simp [opA, hkd]
            have hcall := GK.var (keep_blk _ _ _) hG2.out (A + 1) (by rw [← hop]; exact hI2)
            rw [← hop] at hcall
            have hlen2 := hG2.out.len
            have HO := Lib.hid hop
            clear hop
            have HC := Lib.hid hcall
            clear hcall
            clear hkd
            go_wp2_with fail
            refine hlen2.mono ?_
            clear hlen2
            rintro e w7 ⟨rfl, rfl⟩
            go_wp2_with fail
            refine HC.out.mono ?_
            rintro e w8 ⟨rfl, hg3⟩
            have G3 := Lib.hid hg3
            clear hg3 HC
            have hlen3 := G3.out.len
            generalize hn2 : (op l left).2.1.length = n2 at *
            have HN := Lib.hid hn2
            clear hn2
            go_wp2_with fail
            refine hlen3.mono ?_
            rintro e w9 ⟨rfl, rfl⟩
            go_wp2_with fail
            go_roundw
            case rel => exact ⟨1, by omega, rfl, G3⟩
            case measure => simp [intOf]
          · have k1 : (s.kind == 1) = false := by simp [hkd]
            have k2 : (s.kind == 2) = true := by simp [hkd]
            have k3 : (s.kind == 3) = false := by simp [hkd]
            have k4 : (s.kind == 4) = false := by simp [hkd]
            have hop : op = mkPlus A B := by rw [← hopd.out]; simp [opA, hkd]
            have hcall := GK.plus (keep_blk _ _ _) hG2.out A B (by rw [← hop]; exact hI2)
            rw [← hop] at hcall
            have hlen2 := hG2.out.len
            have HO := Lib.hid hop
            clear hop
            have HC := Lib.hid hcall
            clear hcall
            clear hkd
            go_wp2_with fail
            refine hlen2.mono ?_
            clear hlen2
            rintro e w7 ⟨rfl, rfl⟩
            go_wp2_with fail
            refine HC.out.mono ?_
            rintro e w8 ⟨rfl, hg3⟩
            have G3 := Lib.hid hg3
            clear hg3 HC
            have hlen3 := G3.out.len
            generalize hn2 : (op l left).2.1.length = n2 at *
            have HN := Lib.hid hn2
            clear hn2
            go_wp2_with fail
            refine hlen3.mono ?_
            rintro e w9 ⟨rfl, rfl⟩
            go_wp2_with fail
            go_roundw
            case rel => exact ⟨1, by omega, rfl, G3⟩
            case measure => simp [intOf]
          · have k1 : (s.kind == 1) = false := by simp [hkd]
            have k2 : (s.kind == 2) = false := by simp [hkd]
            have k3 : (s.kind == 3) = true := by simp [hkd]
            have k4 : (s.kind == 4) = false := by simp [hkd]
            have hop : op = mkTimes B A := by rw [← hopd.out]; simp [opA, hkd]
            have hcall := GK.times (keep_blk _ _ _) hG2.out B A (by rw [← hop]; exact hI2)
            rw [← hop] at hcall
            have hlen2 := hG2.out.len
            have HO := Lib.hid hop
            clear hop
            have HC := Lib.hid hcall
            clear hcall
            clear hkd
            go_wp2_with fail
            refine hlen2.mono ?_
            clear hlen2
            rintro e w7 ⟨rfl, rfl⟩
            go_wp2_with fail
            refine HC.out.mono ?_
            rintro e w8 ⟨rfl, hg3⟩
            have G3 := Lib.hid hg3
            clear hg3 HC
            have hlen3 := G3.out.len
            generalize hn2 : (op l left).2.1.length = n2 at *
            have HN := Lib.hid hn2
            clear hn2
            go_wp2_with fail
            refine hlen3.mono ?_
            rintro e w9 ⟨rfl, rfl⟩
            go_wp2_with fail
            go_roundw
            case rel => exact ⟨1, by omega, rfl, G3⟩
            case measure => simp [intOf]
          · have k1 : (s.kind == 1) = false := by simp [hkd]
            have k2 : (s.kind == 2) = false := by simp [hkd]
            have k3 : (s.kind == 3) = false := by simp [hkd]
            have k4 : (s.kind == 4) = true := by simp [hkd]
            have hop : op = mkStar A := by rw [← hopd.out]; simp [opA, hkd]
            have hcall := GK.star (keep_blk _ _ _) hG2.out A (by rw [← hop]; exact hI2)
            rw [← hop] at hcall
            have hlen2 := hG2.out.len
            have HO := Lib.hid hop
            clear hop
            have HC := Lib.hid hcall
            clear hcall
            clear hkd
            go_wp2_with fail
            refine hlen2.mono ?_
            clear hlen2
            rintro e w7 ⟨rfl, rfl⟩
            go_wp2_with fail
            refine HC.out.mono ?_
            rintro e w8 ⟨rfl, hg3⟩
            have G3 := Lib.hid hg3
            clear hg3 HC
            have hlen3 := G3.out.len
            generalize hn2 : (op l left).2.1.length = n2 at *
            have HN := Lib.hid hn2
            clear hn2
            go_wp2_with fail
            refine hlen3.mono ?_
            rintro e w9 ⟨rfl, rfl⟩
            go_wp2_with fail
            go_roundw
            case rel => exact ⟨1, by omega, rfl, G3⟩
            case measure => simp [intOf]
          · have k1 : (s.kind == 1) = false := by simp; omega
            have k2 : (s.kind == 2) = false := by simp; omega
            have k3 : (s.kind == 3) = false := by simp; omega
            have k4 : (s.kind == 4) = false := by simp; omega
            have hop : op = fun l left => ((0, 0), l, left) := by rw [← hopd.out]; simp only [opA]; rw [if_neg (by omega), if_neg (by omega), if_neg (by omega), if_neg (by omega)]
            have hlen2 := hG2.out.len
            have HO := Lib.hid hop
            clear hop
            clear hkd
            go_wp2_with fail
            refine hlen2.mono ?_
            clear hlen2
            rintro e w7 ⟨rfl, rfl⟩
            have G3 := Lib.hid (show GK w pb [w3.heap.size] _ (op l left).2.1 (op l left).2.2 w7 from by rw [HO.out]; exact hG2.out)
            have hlen3 := G3.out.len
            generalize hn2 : (op l left).2.1.length = n2 at *
            have HN := Lib.hid hn2
            clear hn2
            go_wp2_with fail
            refine hlen3.mono ?_
            rintro e w9 ⟨rfl, rfl⟩
            go_wp2_with fail
            go_roundw
            case rel => exact ⟨1, by omega, rfl, G3⟩
            case measure => simp [intOf]
        · simp only [Nat.one_ne_zero, if_false] at hG2
          rcases (by omega : s.kind = 1 ∨ s.kind = 2 ∨ s.kind = 3 ∨ s.kind = 4 ∨ (s.kind ≠ 1 ∧ s.kind ≠ 2 ∧ s.kind ≠ 3 ∧ s.kind ≠ 4)) with hkd | hkd | hkd | hkd | hkd
          · have k1 : (s.kind == 1) = true := by simp [hkd]
            have k2 : (s.kind == 2) = false := by simp [hkd]
            have k3 : (s.kind == 3) = false := by simp [hkd]
            have k4 : (s.kind == 4) = false := by simp [hkd]
            have hop : op = mkVar (A + 1) := by rw [← hopd.out]; simp [opA, hkd]
            have hcall := GK.var (keep_blk _ _ _) hG2.out (A + 1) (by rw [← hop]; rw [hTw.out]; exact hI2)
            rw [← hop] at hcall
            rw [hTw.out] at hcall
            have hlen2 := hG2.out.len
            have HO := Lib.hid hop
            clear hop
            have HC := Lib.hid hcall
            clear hcall
            clear hkd
            go_wp2_with fail
            refine hlen2.mono ?_
            clear hlen2
            rintro e w7 ⟨rfl, rfl⟩
            go_wp2_with fail
            refine HC.out.mono ?_
            rintro e w8 ⟨rfl, hg3⟩
            have G3 := Lib.hid hg3
            clear hg3 HC
            have hlen3 := G3.out.len
            generalize hn2 : (op l left).2.1.length = n2 at *
            have HN := Lib.hid hn2
            clear hn2
            go_wp2_with fail
            refine hlen3.mono ?_
            rintro e w9 ⟨rfl, rfl⟩
            go_wp2_with fail
            refine hlen3.mono ?_
            rintro e w9 ⟨rfl, rfl⟩
            go_wp2_with fail
            go_roundw
            case rel => exact ⟨2, by omega, rfl, G3⟩
            case measure => simp [intOf]
          · have k1 : (s.kind == 1) = false := by simp [hkd]
            have k2 : (s.kind == 2) = true := by simp [hkd]
            have k3 : (s.kind == 3) = false := by simp [hkd]
            have k4 : (s.kind == 4) = false := by simp [hkd]
            have hop : op = mkPlus A B := by rw [← hopd.out]; simp [opA, hkd]
            have hcall := GK.plus (keep_blk _ _ _) hG2.out A B (by rw [← hop]; rw [hTw.out]; exact hI2)
            rw [← hop] at hcall
            rw [hTw.out] at hcall
            have hlen2 := hG2.out.len
            have HO := Lib.hid hop
            clear hop
            have HC := Lib.hid hcall
            clear hcall
            clear hkd
            go_wp2_with fail
            refine hlen2.mono ?_
            clear hlen2
            rintro e w7 ⟨rfl, rfl⟩
            go_wp2_with fail
            refine HC.out.mono ?_
            rintro e w8 ⟨rfl, hg3⟩
            have G3 := Lib.hid hg3
            clear hg3 HC
            have hlen3 := G3.out.len
            generalize hn2 : (op l left).2.1.length = n2 at *
            have HN := Lib.hid hn2
            clear hn2
            go_wp2_with fail
            refine hlen3.mono ?_
            rintro e w9 ⟨rfl, rfl⟩
            go_wp2_with fail
            refine hlen3.mono ?_
            rintro e w9 ⟨rfl, rfl⟩
            go_wp2_with fail
            go_roundw
            case rel => exact ⟨2, by omega, rfl, G3⟩
            case measure => simp [intOf]
          · have k1 : (s.kind == 1) = false := by simp [hkd]
            have k2 : (s.kind == 2) = false := by simp [hkd]
            have k3 : (s.kind == 3) = true := by simp [hkd]
            have k4 : (s.kind == 4) = false := by simp [hkd]
            have hop : op = mkTimes B A := by rw [← hopd.out]; simp [opA, hkd]
            have hcall := GK.times (keep_blk _ _ _) hG2.out B A (by rw [← hop]; rw [hTw.out]; exact hI2)
            rw [← hop] at hcall
            rw [hTw.out] at hcall
            have hlen2 := hG2.out.len
            have HO := Lib.hid hop
            clear hop
            have HC := Lib.hid hcall
            clear hcall
            clear hkd
            go_wp2_with fail
            refine hlen2.mono ?_
            clear hlen2
            rintro e w7 ⟨rfl, rfl⟩
            go_wp2_with fail
            refine HC.out.mono ?_
            rintro e w8 ⟨rfl, hg3⟩
            have G3 := Lib.hid hg3
            clear hg3 HC
            have hlen3 := G3.out.len
            generalize hn2 : (op l left).2.1.length = n2 at *
            have HN := Lib.hid hn2
            clear hn2
            go_wp2_with fail
            refine hlen3.mono ?_
            rintro e w9 ⟨rfl, rfl⟩
            go_wp2_with fail
            refine hlen3.mono ?_
            rintro e w9 ⟨rfl, rfl⟩
            go_wp2_with fail
            go_roundw
            case rel => exact ⟨2, by omega, rfl, G3⟩
            case measure => simp [intOf]
          · have k1 : (s.kind == 1) = false := by simp [hkd]
            have k2 : (s.kind == 2) = false := by simp [hkd]
            have k3 : (s.kind == 3) = false := by simp [hkd]
            have k4 : (s.kind == 4) = true := by simp [hkd]
            have hop : op = mkStar A := by rw [← hopd.out]; simp [opA, hkd]
            have hcall := GK.star (keep_blk _ _ _) hG2.out A (by rw [← hop]; rw [hTw.out]; exact hI2)
            rw [← hop] at hcall
            rw [hTw.out] at hcall
            have hlen2 := hG2.out.len
            have HO := Lib.hid hop
            clear hop
            have HC := Lib.hid hcall
            clear hcall
            clear hkd
            go_wp2_with fail
            refine hlen2.mono ?_
            clear hlen2
            rintro e w7 ⟨rfl, rfl⟩
            go_wp2_with fail
            refine HC.out.mono ?_
            rintro e w8 ⟨rfl, hg3⟩
            have G3 := Lib.hid hg3
            clear hg3 HC
            have hlen3 := G3.out.len
            generalize hn2 : (op l left).2.1.length = n2 at *
            have HN := Lib.hid hn2
            clear hn2
            go_wp2_with fail
            refine hlen3.mono ?_
            rintro e w9 ⟨rfl, rfl⟩
            go_wp2_with fail
            refine hlen3.mono ?_
            rintro e w9 ⟨rfl, rfl⟩
            go_wp2_with fail
            go_roundw
            case rel => exact ⟨2, by omega, rfl, G3⟩
            case measure => simp [intOf]
          · have k1 : (s.kind == 1) = false := by simp; omega
            have k2 : (s.kind == 2) = false := by simp; omega
            have k3 : (s.kind == 3) = false := by simp; omega
            have k4 : (s.kind == 4) = false := by simp; omega
            have hop : op = fun l left => ((0, 0), l, left) := by rw [← hopd.out]; simp only [opA]; rw [if_neg (by omega), if_neg (by omega), if_neg (by omega), if_neg (by omega)]
            have hlen2 := hG2.out.len
            have HO := Lib.hid hop
            clear hop
            clear hkd
            go_wp2_with fail
            refine hlen2.mono ?_
            clear hlen2
            rintro e w7 ⟨rfl, rfl⟩
            have G3 := Lib.hid (show GK w pb [w3.heap.size] _ (op l left).2.1 (op l left).2.2 w7 from by exact hG2.out)
            have hlen3 := G3.out.len
            generalize hn2 : (op l left).2.1.length = n2 at *
            have HN := Lib.hid hn2
            clear hn2
            go_wp2_with fail
            refine hlen3.mono ?_
            rintro e w9 ⟨rfl, rfl⟩
            go_wp2_with fail
            refine hlen3.mono ?_
            rintro e w9 ⟨rfl, rfl⟩
            go_wp2_with fail
            go_roundw
            case rel => exact ⟨2, by omega, rfl, G3⟩
            case measure => simp [intOf]
        · go_wp2_with fail
          go_roundw
          case rel => exact ⟨j + 1, (op l left).2.1, (op l left).2.2, by omega, by go_num, by omega, GK.drop hG2.out, HI.out⟩
          case measure => simp [intOf]; omega
    · obtain ⟨⟨F, s1, f1, n1, _, _, l2⟩, hinv⟩ := hG.out
      have HV := Lib.hid hinv
      have R := Lib.hid (show Col w pb l left 0 (.slice none 0 0) wr from ⟨F, [], s1, f1, n1, Sl.nil _ _ _ _, by simp⟩)
      clear hinv s1 f1 n1 hG O HX
      go_wp2_with fail
      go_loopw [9, 10] (fun v i wq => ∃ k : Nat, k ≤ l.length ∧ i = .int .i64 k ∧ Hid (Col w pb l left k v wq)) (fun _ i _ => l.length - (intOf i).toNat)
      case atStart => exact ⟨0, Nat.zero_le _, rfl, R.out⟩
      case round =>
        rename World => wq
        obtain ⟨k, hk, rfl, hC⟩ := hrel
        clear R
        obtain ⟨F, G, s2, f2, n2, sl, hG⟩ := hC.out
        have hlen := len_any pb F l left wq s2
        by_cases hkl : k < l.length
        · have hgk : l[k]? = some l[k] := by simp [hkl]
          have hget := gate_get_any pb F l left k l[k] wq s2 hgk
          have hwf := HV.out.wf k l[k] hgk
          generalize hgg : l[k] = g at *
          have HG := Lib.hid hgg
          have HGK := Lib.hid hgk
          have A := Lib.hid (And.intro s2 (And.intro f2 (And.intro n2 (And.intro sl hG))))
          have hget' := Lib.hid hget
          have hwf1 := hwf.1
          have hwf2 := hwf.2
          have W1 := Lib.hid hwf1
          have W2 := Lib.hid hwf2
          clear hgg hgk hget hwf hwf1 hwf2 s2 f2 n2 sl hG
          go_wp2_with fail
          refine hlen.mono ?_
          clear hlen
          rintro e w7 ⟨rfl, rfl⟩
          go_wp2_with fail
          refine hget'.out.mono ?_
          clear hget'
          rintro e w8 ⟨rfl, f8⟩
          have F8 := Lib.hid f8
          clear f8
          obtain ⟨sz0, hkq⟩ : (l.take k).length = k ∧ k ≤ l.length := ⟨by simp; omega, hk⟩
          obtain ⟨a9, c9, hv9⟩ := A.out.2.2.2.1.form
          rw [sz0] at hv9
          subst hv9
          have HK := Lib.hid sz0
          clear sz0
          have C2 := Lib.hid (show Col2 w pb l left k a9 c9 w8.heap.size g (w8.alloc (.cells #[.int .i64 g.k, .int .i64 g.a, .int .i64 g.b] 39)) from by
            have fx := F8.out.trans1 (Frame.alloc [] w8 (.cells #[.int .i64 g.k, .int .i64 g.a, .int .i64 g.b] 39))
            have hz := F8.out.size
            refine ⟨F, G, A.out.1.frame0 fx, A.out.2.1.trans1 fx, A.out.2.2.1, A.out.2.2.2.1.frame0 fx, A.out.2.2.2.2, Blk.new _ _ _, fun hm => ?_, fun hm => ?_⟩
            · have := A.out.1.lt _ hm; omega
            · have := A.out.2.2.2.1.lt _ hm; omega)
          clear A F8 hC
          have ND := Lib.hid HV.out.nodup
          have hkd : (g.k < 4) ∨ (g.k = 4) ∨ (g.k = 5) ∨ (4 ≤ g.k ∧ g.k ≠ 4 ∧ g.k ≠ 5) := by omega
          rcases hkd with hkd | hkd | hkd | hkd
          · have q1 : ¬ (4 : Int) ≤ g.k := by omega
            have k4 : (g.k == 4) = false := by simp; omega
            have k5 : (g.k == 5) = false := by simp; omega
            clear hkd
            go_wp2_with fail
            go_loopw [13] (fun i wx => ∃ m : Nat, m ≤ k ∧ i = .int .i64 m ∧ Hid (Col2 w pb l left k a9 c9 w8.heap.size g wx)) (fun i _ => k - (intOf i).toNat)
            case atStart => exact ⟨0, Nat.zero_le _, rfl, C2⟩
            case round =>
              rename World => wx
              obtain ⟨m, hm, rfl, hC⟩ := hrel
              clear C2
              by_cases hmk : m < k
              · obtain ⟨F, G, s2, f2, n2, sl, hG, hb, nF, nG⟩ := id hC.out
                have hmx : (l.take k)[m]? = some l[m] := by rw [List.getElem?_take_of_lt hmk]; simp
                have hne : l[m] ≠ g := by
                  rw [← HG.out]
                  intro e
                  exact absurd ((List.getElem_inj ND.out).1 e) (by omega)
                obtain ⟨b9, _, e9, _, _, hc9⟩ := sl.cell encG_len hmx
                rw [HK.out] at e9
                injection e9 with e9 e91 e92
                subst e9 e92
                generalize l[m] = x at *
                have d0 := hc9 0 _ rfl
                have d1 := hc9 1 _ rfl
                have d2 := hc9 2 _ rfl
                have b0 := hb.at 0 rfl
                have b1 := hb.at 1 rfl
                have b2 := hb.at 2 rfl
                simp only [Nat.add_zero] at d0
                have q : ∀ n, (binOp .eql 39 (.agg #[.int .i64 x.k, .int .i64 x.a, .int .i64 x.b]) (.agg #[.int .i64 g.k, .int .i64 g.a, .int .i64 g.b])).run Try.prog (wx.drewN n) = .ok (.bool false) (wx.drewN n) := fun n => by
                  have := run_gate_eql x g (wx.drewN n)
                  rw [decide_eq_false hne] at this
                  exact this
                clear s2 f2 n2 sl hG hb nF nG hc9 hmx hne e91
                go_wp2_with fail
                refine wp_region_quiet_lit (by kernel_rfl) (by kernel_rfl) ?_
                iterate 5 (go_big_quiet_step (fail))
                go_big_quiet_want
                refine quiet_bin .eql 39 39 (.tmp 156) (.tmp 157) (.agg #[.int .i64 x.k, .int .i64 x.a, .int .i64 x.b]) (.agg #[.int .i64 g.k, .int .i64 g.a, .int .i64 g.b]) (.bool false) rfl rfl rfl (fun w => eqGuard_gate _ _ _ _ w) ?_ ?_
                · rintro _ ⟨n, rfl⟩; exact q n
                go_big_quiet_on
                refine wpQuiet_nil ?_
                intro _ hw'
                obtain ⟨nq, hw'⟩ := hw'
                subst hw'
                go_wp2_with fail
                go_roundw
                case rel => exact ⟨m + 1, by omega, by go_num, Lib.hid (hC.out.quiet (Frame.drewN _ _ _))⟩
                case measure => simp [intOf]; omega
              · obtain ⟨F, G, s2, f2, n2, sl, hG, hb, nF, nG⟩ := id hC.out
                have A := Lib.hid (And.intro s2 (And.intro f2 (And.intro n2 (And.intro sl (And.intro hG (And.intro nF nG))))))
                have b0 := hb.at 0 rfl
                have b1 := hb.at 1 rfl
                have b2 := hb.at 2 rfl
                clear s2 f2 n2 hG nF nG hb hC
                go_wp2_with (at_builtin; refine wpList_append_sl _ rfl (.tmp 159) (.tmp 161) 37 rfl 39 3 24 _ Gt.cs Try.underlying37 infoGate rfl (by omega) _ (l.take k) G rfl (sl.frame0 (Frame.alloc _ _ _)) wx.heap.size 1 1 [g] _ rfl (Blk.new _ _ _) rfl rfl encG_len encG_one (by omega) (by rw [HK.out]; omega) (by omega) ?_; intro b' cap' w4 sl4 f4 hb4)
                go_roundw
                case rel =>
                  have fa := Frame.alloc [] wx (.cells #[.int .i64 g.k, .int .i64 g.a, .int .i64 g.b] 39)
                  have hG' := A.out.2.2.2.2.1
                  have hz := A.out.2.1.size
                  refine ⟨k + 1, by omega, by go_num, Lib.hid ⟨F, [b'], (A.out.1.frame0 fa).frame f4 (fun x hx hm => (hG' x hm).1 hx), (A.out.2.1.trans1 fa).trans f4 (fun x hx => .inr (hG' x hx).2), A.out.2.2.1, by rw [List.take_add_one, HGK.out]; rw [HK.out] at sl4; exact sl4, ?_⟩⟩
                  intro x hx
                  simp at hx; subst hx
                  rcases hb4 with h | h
                  · exact hG' x h
                  · subst h
                    exact ⟨fun hm => by have := A.out.1.lt _ hm; simp at this; omega, by simp; omega⟩
                case measure => simp [intOf]; omega
          · obtain ⟨v1, v2, v3⟩ := W1.out (by omega)
            have v4 := W2.out (by omega)
            have q1 : (4 : Int) ≤ g.k := by omega
            have k4 : (g.k == 4) = true := by simp [hkd]
            clear hkd
            go_wp2_with fail
            go_loopw [13] (fun i wx => ∃ m : Nat, m ≤ k ∧ i = .int .i64 m ∧ Hid (Col2 w pb l left k a9 c9 w8.heap.size g wx)) (fun i _ => k - (intOf i).toNat)
            case atStart => exact ⟨0, Nat.zero_le _, rfl, C2⟩
            case round =>
              rename World => wx
              obtain ⟨m, hm, rfl, hC⟩ := hrel
              clear C2
              by_cases hmk : m < k
              · obtain ⟨F, G, s2, f2, n2, sl, hG, hb, nF, nG⟩ := id hC.out
                have hmx : (l.take k)[m]? = some l[m] := by rw [List.getElem?_take_of_lt hmk]; simp
                have hne : l[m] ≠ g := by
                  rw [← HG.out]
                  intro e
                  exact absurd ((List.getElem_inj ND.out).1 e) (by omega)
                obtain ⟨b9, _, e9, _, _, hc9⟩ := sl.cell encG_len hmx
                rw [HK.out] at e9
                injection e9 with e9 e91 e92
                subst e9 e92
                generalize l[m] = x at *
                have d0 := hc9 0 _ rfl
                have d1 := hc9 1 _ rfl
                have d2 := hc9 2 _ rfl
                have b0 := hb.at 0 rfl
                have b1 := hb.at 1 rfl
                have b2 := hb.at 2 rfl
                simp only [Nat.add_zero] at d0
                have q : ∀ n, (binOp .eql 39 (.agg #[.int .i64 x.k, .int .i64 x.a, .int .i64 x.b]) (.agg #[.int .i64 g.k, .int .i64 g.a, .int .i64 g.b])).run Try.prog (wx.drewN n) = .ok (.bool false) (wx.drewN n) := fun n => by
                  have := run_gate_eql x g (wx.drewN n)
                  rw [decide_eq_false hne] at this
                  exact this
                clear s2 f2 n2 sl hG hb nF nG hc9 hmx hne e91
                go_wp2_with fail
                refine wp_region_quiet_lit (by kernel_rfl) (by kernel_rfl) ?_
                iterate 5 (go_big_quiet_step (fail))
                go_big_quiet_want
                refine quiet_bin .eql 39 39 (.tmp 156) (.tmp 157) (.agg #[.int .i64 x.k, .int .i64 x.a, .int .i64 x.b]) (.agg #[.int .i64 g.k, .int .i64 g.a, .int .i64 g.b]) (.bool false) rfl rfl rfl (fun w => eqGuard_gate _ _ _ _ w) ?_ ?_
                · rintro _ ⟨n, rfl⟩; exact q n
                go_big_quiet_on
                refine wpQuiet_nil ?_
                intro _ hw'
                obtain ⟨nq, hw'⟩ := hw'
                subst hw'
                go_wp2_with fail
                go_roundw
                case rel => exact ⟨m + 1, by omega, by go_num, Lib.hid (hC.out.quiet (Frame.drewN _ _ _))⟩
                case measure => simp [intOf]; omega
              · obtain ⟨F, G, s2, f2, n2, sl, hG, hb, nF, nG⟩ := id hC.out
                have A := Lib.hid (And.intro s2 (And.intro f2 (And.intro n2 (And.intro sl (And.intro hG (And.intro nF nG))))))
                have b0 := hb.at 0 rfl
                have b1 := hb.at 1 rfl
                have b2 := hb.at 2 rfl
                clear s2 f2 n2 hG nF nG hb hC
                go_wp2_with (at_builtin; refine wpList_append_sl _ rfl (.tmp 159) (.tmp 161) 37 rfl 39 3 24 _ Gt.cs Try.underlying37 infoGate rfl (by omega) _ (l.take k) G rfl (sl.frame0 (Frame.alloc _ _ _)) wx.heap.size 1 1 [g] _ rfl (Blk.new _ _ _) rfl rfl encG_len encG_one (by omega) (by rw [HK.out]; omega) (by omega) ?_; intro b' cap' w4 sl4 f4 hb4)
                go_roundw
                case rel =>
                  have fa := Frame.alloc [] wx (.cells #[.int .i64 g.k, .int .i64 g.a, .int .i64 g.b] 39)
                  have hG' := A.out.2.2.2.2.1
                  have hz := A.out.2.1.size
                  refine ⟨k + 1, by omega, by go_num, Lib.hid ⟨F, [b'], (A.out.1.frame0 fa).frame f4 (fun x hx hm => (hG' x hm).1 hx), (A.out.2.1.trans1 fa).trans f4 (fun x hx => .inr (hG' x hx).2), A.out.2.2.1, by rw [List.take_add_one, HGK.out]; rw [HK.out] at sl4; exact sl4, ?_⟩⟩
                  intro x hx
                  simp at hx; subst hx
                  rcases hb4 with h | h
                  · exact hG' x h
                  · subst h
                    exact ⟨fun hm => by have := A.out.1.lt _ hm; simp at this; omega, by simp; omega⟩
                case measure => simp [intOf]; omega
          · obtain ⟨v1, v2, v3⟩ := W1.out (by omega)
            have v4 := W2.out (by omega)
            have q1 : (4 : Int) ≤ g.k := by omega
            have k4 : (g.k == 4) = false := by simp [hkd]
            have k5 : (g.k == 5) = true := by simp [hkd]
            clear hkd
            go_wp2_with fail
            go_loopw [13] (fun i wx => ∃ m : Nat, m ≤ k ∧ i = .int .i64 m ∧ Hid (Col2 w pb l left k a9 c9 w8.heap.size g wx)) (fun i _ => k - (intOf i).toNat)
            case atStart => exact ⟨0, Nat.zero_le _, rfl, C2⟩
            case round =>
              rename World => wx
              obtain ⟨m, hm, rfl, hC⟩ := hrel
              clear C2
              by_cases hmk : m < k
              · obtain ⟨F, G, s2, f2, n2, sl, hG, hb, nF, nG⟩ := id hC.out
                have hmx : (l.take k)[m]? = some l[m] := by rw [List.getElem?_take_of_lt hmk]; simp
                have hne : l[m] ≠ g := by
                  rw [← HG.out]
                  intro e
                  exact absurd ((List.getElem_inj ND.out).1 e) (by omega)
                obtain ⟨b9, _, e9, _, _, hc9⟩ := sl.cell encG_len hmx
                rw [HK.out] at e9
                injection e9 with e9 e91 e92
                subst e9 e92
                generalize l[m] = x at *
                have d0 := hc9 0 _ rfl
                have d1 := hc9 1 _ rfl
                have d2 := hc9 2 _ rfl
                have b0 := hb.at 0 rfl
                have b1 := hb.at 1 rfl
                have b2 := hb.at 2 rfl
                simp only [Nat.add_zero] at d0
                have q : ∀ n, (binOp .eql 39 (.agg #[.int .i64 x.k, .int .i64 x.a, .int .i64 x.b]) (.agg #[.int .i64 g.k, .int .i64 g.a, .int .i64 g.b])).run Try.prog (wx.drewN n) = .ok (.bool false) (wx.drewN n) := fun n => by
                  have := run_gate_eql x g (wx.drewN n)
                  rw [decide_eq_false hne] at this
                  exact this
                clear s2 f2 n2 sl hG hb nF nG hc9 hmx hne e91
                go_wp2_with fail
                refine wp_region_quiet_lit (by kernel_rfl) (by kernel_rfl) ?_
                iterate 5 (go_big_quiet_step (fail))
                go_big_quiet_want
                refine quiet_bin .eql 39 39 (.tmp 156) (.tmp 157) (.agg #[.int .i64 x.k, .int .i64 x.a, .int .i64 x.b]) (.agg #[.int .i64 g.k, .int .i64 g.a, .int .i64 g.b]) (.bool false) rfl rfl rfl (fun w => eqGuard_gate _ _ _ _ w) ?_ ?_
                · rintro _ ⟨n, rfl⟩; exact q n
                go_big_quiet_on
                refine wpQuiet_nil ?_
                intro _ hw'
                obtain ⟨nq, hw'⟩ := hw'
                subst hw'
                go_wp2_with fail
                go_roundw
                case rel => exact ⟨m + 1, by omega, by go_num, Lib.hid (hC.out.quiet (Frame.drewN _ _ _))⟩
                case measure => simp [intOf]; omega
              · obtain ⟨F, G, s2, f2, n2, sl, hG, hb, nF, nG⟩ := id hC.out
                have A := Lib.hid (And.intro s2 (And.intro f2 (And.intro n2 (And.intro sl (And.intro hG (And.intro nF nG))))))
                have b0 := hb.at 0 rfl
                have b1 := hb.at 1 rfl
                have b2 := hb.at 2 rfl
                clear s2 f2 n2 hG nF nG hb hC
                go_wp2_with (at_builtin; refine wpList_append_sl _ rfl (.tmp 159) (.tmp 161) 37 rfl 39 3 24 _ Gt.cs Try.underlying37 infoGate rfl (by omega) _ (l.take k) G rfl (sl.frame0 (Frame.alloc _ _ _)) wx.heap.size 1 1 [g] _ rfl (Blk.new _ _ _) rfl rfl encG_len encG_one (by omega) (by rw [HK.out]; omega) (by omega) ?_; intro b' cap' w4 sl4 f4 hb4)
                go_roundw
                case rel =>
                  have fa := Frame.alloc [] wx (.cells #[.int .i64 g.k, .int .i64 g.a, .int .i64 g.b] 39)
                  have hG' := A.out.2.2.2.2.1
                  have hz := A.out.2.1.size
                  refine ⟨k + 1, by omega, by go_num, Lib.hid ⟨F, [b'], (A.out.1.frame0 fa).frame f4 (fun x hx hm => (hG' x hm).1 hx), (A.out.2.1.trans1 fa).trans f4 (fun x hx => .inr (hG' x hx).2), A.out.2.2.1, by rw [List.take_add_one, HGK.out]; rw [HK.out] at sl4; exact sl4, ?_⟩⟩
                  intro x hx
                  simp at hx; subst hx
                  rcases hb4 with h | h
                  · exact hG' x h
                  · subst h
                    exact ⟨fun hm => by have := A.out.1.lt _ hm; simp at this; omega, by simp; omega⟩
                case measure => simp [intOf]; omega
          · obtain ⟨v1, v2, v3⟩ := W1.out (by omega)
            have q1 : (4 : Int) ≤ g.k := by omega
            have k4 : (g.k == 4) = false := by simp; omega
            have k5 : (g.k == 5) = false := by simp; omega
            clear hkd
            go_wp2_with fail
            go_loopw [13] (fun i wx => ∃ m : Nat, m ≤ k ∧ i = .int .i64 m ∧ Hid (Col2 w pb l left k a9 c9 w8.heap.size g wx)) (fun i _ => k - (intOf i).toNat)
            case atStart => exact ⟨0, Nat.zero_le _, rfl, C2⟩
            case round =>
              rename World => wx
              obtain ⟨m, hm, rfl, hC⟩ := hrel
              clear C2
              by_cases hmk : m < k
              · obtain ⟨F, G, s2, f2, n2, sl, hG, hb, nF, nG⟩ := id hC.out
                have hmx : (l.take k)[m]? = some l[m] := by rw [List.getElem?_take_of_lt hmk]; simp
                have hne : l[m] ≠ g := by
                  rw [← HG.out]
                  intro e
                  exact absurd ((List.getElem_inj ND.out).1 e) (by omega)
                obtain ⟨b9, _, e9, _, _, hc9⟩ := sl.cell encG_len hmx
                rw [HK.out] at e9
                injection e9 with e9 e91 e92
                subst e9 e92
                generalize l[m] = x at *
                have d0 := hc9 0 _ rfl
                have d1 := hc9 1 _ rfl
                have d2 := hc9 2 _ rfl
                have b0 := hb.at 0 rfl
                have b1 := hb.at 1 rfl
                have b2 := hb.at 2 rfl
                simp only [Nat.add_zero] at d0
                have q : ∀ n, (binOp .eql 39 (.agg #[.int .i64 x.k, .int .i64 x.a, .int .i64 x.b]) (.agg #[.int .i64 g.k, .int .i64 g.a, .int .i64 g.b])).run Try.prog (wx.drewN n) = .ok (.bool false) (wx.drewN n) := fun n => by
                  have := run_gate_eql x g (wx.drewN n)
                  rw [decide_eq_false hne] at this
                  exact this
                clear s2 f2 n2 sl hG hb nF nG hc9 hmx hne e91
                go_wp2_with fail
                refine wp_region_quiet_lit (by kernel_rfl) (by kernel_rfl) ?_
                iterate 5 (go_big_quiet_step (fail))
                go_big_quiet_want
                refine quiet_bin .eql 39 39 (.tmp 156) (.tmp 157) (.agg #[.int .i64 x.k, .int .i64 x.a, .int .i64 x.b]) (.agg #[.int .i64 g.k, .int .i64 g.a, .int .i64 g.b]) (.bool false) rfl rfl rfl (fun w => eqGuard_gate _ _ _ _ w) ?_ ?_
                · rintro _ ⟨n, rfl⟩; exact q n
                go_big_quiet_on
                refine wpQuiet_nil ?_
                intro _ hw'
                obtain ⟨nq, hw'⟩ := hw'
                subst hw'
                go_wp2_with fail
                go_roundw
                case rel => exact ⟨m + 1, by omega, by go_num, Lib.hid (hC.out.quiet (Frame.drewN _ _ _))⟩
                case measure => simp [intOf]; omega
              · obtain ⟨F, G, s2, f2, n2, sl, hG, hb, nF, nG⟩ := id hC.out
                have A := Lib.hid (And.intro s2 (And.intro f2 (And.intro n2 (And.intro sl (And.intro hG (And.intro nF nG))))))
                have b0 := hb.at 0 rfl
                have b1 := hb.at 1 rfl
                have b2 := hb.at 2 rfl
                clear s2 f2 n2 hG nF nG hb hC
                go_wp2_with (at_builtin; refine wpList_append_sl _ rfl (.tmp 159) (.tmp 161) 37 rfl 39 3 24 _ Gt.cs Try.underlying37 infoGate rfl (by omega) _ (l.take k) G rfl (sl.frame0 (Frame.alloc _ _ _)) wx.heap.size 1 1 [g] _ rfl (Blk.new _ _ _) rfl rfl encG_len encG_one (by omega) (by rw [HK.out]; omega) (by omega) ?_; intro b' cap' w4 sl4 f4 hb4)
                go_roundw
                case rel =>
                  have fa := Frame.alloc [] wx (.cells #[.int .i64 g.k, .int .i64 g.a, .int .i64 g.b] 39)
                  have hG' := A.out.2.2.2.2.1
                  have hz := A.out.2.1.size
                  refine ⟨k + 1, by omega, by go_num, Lib.hid ⟨F, [b'], (A.out.1.frame0 fa).frame f4 (fun x hx hm => (hG' x hm).1 hx), (A.out.2.1.trans1 fa).trans f4 (fun x hx => .inr (hG' x hx).2), A.out.2.2.1, by rw [List.take_add_one, HGK.out]; rw [HK.out] at sl4; exact sl4, ?_⟩⟩
                  intro x hx
                  simp at hx; subst hx
                  rcases hb4 with h | h
                  · exact hG' x h
                  · subst h
                    exact ⟨fun hm => by have := A.out.1.lt _ hm; simp at this; omega, by simp; omega⟩
                case measure => simp [intOf]; omega
        · have A := Lib.hid f2
          clear s2 n2 sl hG HV hC f2
          go_wp2_with fail
          refine hlen.mono ?_
          clear hlen
          rintro e w7 ⟨rfl, rfl⟩
          go_wp2_with fail
          refine (awake13 _).mono ?_
          rintro e w8 ⟨rfl, f8⟩
          go_wp2_with fail
          go_ret
          exact ⟨rfl, A.out.trans1 f8⟩

end Go.Proofs.Ytolkmapdbilolaa
