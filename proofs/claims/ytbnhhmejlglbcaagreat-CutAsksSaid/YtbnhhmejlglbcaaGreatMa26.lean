/- cut.Restrict, cut.Copy. -/
import Derived.Test.YtbnhhmejlglbcaaGreatMa25
import Derived.Test.YtbnhhmejlglbcaaGreatMa02
import Derived.Test.YtbnhhmejlglbcaaGreatMa06
namespace Go.Proofs.YtbnhhmejlglbcaaGreat
open Go.RowKit
set_option linter.unusedSimpArgs false
set_option linter.unusedVariables false

/-- Catch, of a closure that leaves by a bail, from wherever. -/
theorem catch_bailE (K : Nat) (caps : Array Value) (w : World) (R : World → Prop) (S : List Nat) (code : Int) (hK : Entered K) (hS : ∀ x ∈ S, x < w.heap.size)
    (h : ∀ w1, Frame [] w w1 → w.heap.size + 2 = w1.heap.size → Calls Tryz.prog K caps w1 fun e w' => ∃ chain at_, e = .panicked chain ∧ bailing w1 code at_ chain w' ∧ Frame S w1 w' ∧ ∀ w'', Frame [w.heap.size, w.heap.size + 1] w' w'' → R w'') :
    Calls Tryz.prog 82 #[.func (.func K) #[] caps] w fun e w' => ∃ at_, e = .returned (.tuple #[.int .i64 code, .int .i64 at_]) ∧ R w' := by
  have hmf := run_makeFunc
  have H := Lib.hid h
  have HS := Lib.hid hS
  clear h hS
  go_enter_defers Tryz.func82, Tryz.ntmps82
  go_wp2_with fail
  have k1 : Blk ((w.alloc (.cells #[.int .i64 0] 46)).alloc (.cells #[.int .i64 0] 3)) w.heap.size 46 #[.int .i64 0] := (Blk.new _ _ _).alloc _
  have k2 : Blk ((w.alloc (.cells #[.int .i64 0] 46)).alloc (.cells #[.int .i64 0] 3)) (w.heap.size + 1) 3 #[.int .i64 0] := by
    have := Blk.new (w.alloc (.cells #[.int .i64 0] 46)) 3 #[.int .i64 0]
    simpa using this
  have fr0 := (Frame.alloc [] w (.cells #[.int .i64 0] 46)).trans1 (Frame.alloc [] _ (.cells #[.int .i64 0] 3))
  refine (call_any K caps _ _ ?_ hK (H.out _ fr0 (by simp))).mono ?_
  · rintro e w' ⟨c, a, rfl, _⟩; exact .inr ⟨c, rfl⟩
  rintro e w1 ⟨chain, at_, rfl, ⟨nb, rfl, hnb, hb⟩, f1, hR⟩
  have j1 := k1.frame f1 (fun hm => by have := HS.out _ hm; omega)
  have j2 := k2.frame f1 (fun hm => by have := HS.out _ hm; omega)
  have HRR := Lib.hid hR
  clear hR fr0
  refine leaves_cons (f := 121) (args := #[.pointer (some ⟨w.heap.size, 0, none⟩), .pointer (some ⟨w.heap.size + 1, 0, none⟩)]) (by simp) (by simp [go_sem]) ?_
  refine (catch1_bail _ _ nb code at_ 0 0 [] _ j1 j2 hb (by simp)).mono ?_
  rintro e u' w'' ⟨rfl, rfl, m1, m2, f2⟩
  have d1 := m1.at 0 rfl
  have d2 := m2.at 0 rfl
  simp [Leaves, settle, results, Tryz.results82, go_sem, d1, d2]
  exact HRR.out _ f2

/-- A circuit made again, or no budget for it. -/
def RestrEnd (fin : CutSt) (root : Nat) (w : World) (e : Ending) (w' : World) : Prop :=
  (fin.e = 0 → ∃ qb Q, e = .returned (.tuple #[.pointer (some ⟨qb, 0, none⟩), .int .i64 (fin.bm root), .int .i64 0]) ∧ St w' qb Q fin.l fin.left ∧ (∀ x ∈ Q, w.heap.size ≤ x)) ∧
  (fin.e ≠ 0 → e = .returned (.tuple #[.pointer none, .int .i64 0, .int .i64 fin.e])) ∧ Frame [] w w'
theorem entered_restr1 : Entered 83 := by intro args w; simp [go_sem]

set_option maxHeartbeats 4000000 in
set_option maxRecDepth 100000 in
theorem restrict_any (pb : Nat) (F : List Nat) (l : List Gt) (left : Int) (hI : Inv l) (root : Nat) (hr : root < l.length) (hlen : l.length ≤ 100000) (budget : Int)
    (ta : Option Addr) (tc : Nat) (ts : List Int) (htl : ts.length ≤ 1000000) (w : World) (h : St w pb F l left) (ht : RdI w ta ts) (hta : ts ≠ [] → ∀ b off, ta = some ⟨b, off, none⟩ → b < w.heap.size) :
    Calls Tryz.prog 32 #[.pointer (some ⟨pb, 0, none⟩), .int .i64 root, .slice ta ts.length tc, .int .i64 budget] w (RestrEnd (cutV (fun t => decide (t ∈ ts)) l (reach l root) (room budget)) root w) := by
  have hmf := run_makeFunc
  have hmm := @run_makeMap Tryz.prog
  have hg : l[root]? = some l[root] := List.getElem?_eq_getElem hr
  generalize l[root] = g at hg
  obtain ⟨gk, ga, gb⟩ := g
  have H := Lib.hid h
  have HT := Lib.hid (And.intro ht hta)
  have HI := Lib.hid hI
  have HG := Lib.hid hg
  have hz := h.lt
  have HZ := Lib.hid hz
  clear h ht hta hI hg hz
  generalize hfin : cutV (fun t => decide (t ∈ ts)) l (reach l root) (room budget) = fin at *
  have HFIN := Lib.hid hfin
  clear hfin
  go_enter Tryz.func32, Tryz.ntmps32
  go_upto_region 1 with fail
  have f0 : Frame [] w ((((w.alloc (.cells #[.pointer (some ⟨pb, 0, none⟩)] 26)).alloc (.cells #[.int .i64 root] 3)).alloc (.cells #[.slice ta ts.length tc] 50)).alloc (.cells #[.pointer none] 26)) := by (repeat first | assumption | exact Frame.refl _ _ | refine Frame.trans1 ?_ (Frame.alloc _ _ _) | refine Frame.trans1 ?_ (Frame.drew _ _) | refine Frame.trans1 ?_ (Frame.drewN _ _ _))
  have b4 := (((Blk.new w 26 #[.pointer (some ⟨pb, 0, none⟩)]).alloc (.cells #[.int .i64 root] 3)).alloc (.cells #[.slice ta ts.length tc] 50)).alloc (.cells #[.pointer none] 26)
  have b5 := ((Blk.new (w.alloc (.cells #[.pointer (some ⟨pb, 0, none⟩)] 26)) 3 #[.int .i64 root]).alloc (.cells #[.slice ta ts.length tc] 50)).alloc (.cells #[.pointer none] 26)
  have b6 := (Blk.new ((w.alloc (.cells #[.pointer (some ⟨pb, 0, none⟩)] 26)).alloc (.cells #[.int .i64 root] 3)) 50 #[.slice ta ts.length tc]).alloc (.cells #[.pointer none] 26)
  have b8 := Blk.new (((w.alloc (.cells #[.pointer (some ⟨pb, 0, none⟩)] 26)).alloc (.cells #[.int .i64 root] 3)).alloc (.cells #[.slice ta ts.length tc] 50)) 26 #[.pointer none]
  simp only [World.size_alloc] at b5 b6 b8
  obtain ⟨wA, hwA⟩ : ∃ wA, ((((w.alloc (.cells #[.pointer (some ⟨pb, 0, none⟩)] 26)).alloc (.cells #[.int .i64 root] 3)).alloc (.cells #[.slice ta ts.length tc] 50)).alloc (.cells #[.pointer none] 26)) = wA := ⟨_, rfl⟩
  rw [hwA] at f0 b4 b5 b6 b8 ⊢
  clear hwA
  have GA := Lib.hid (gate_get_any pb F l left root ⟨gk, ga, gb⟩ wA (H.out.frame0 f0) HG.out)
  have x4 := b4.at 0 rfl
  have x5 := b5.at 0 rfl
  have B := Lib.hid (And.intro f0 (And.intro b4 (And.intro b5 (And.intro b6 b8))))
  clear f0 b4 b5 b6 b8
  go_wp2_with fail
  refine GA.out.mono ?_
  rintro e w1 ⟨rfl, f1⟩
  have fG := f1.trans1 (Frame.alloc [] w1 (.cells #[.int .i64 gk, .int .i64 ga, .int .i64 gb] 112))
  clear x4 x5 GA
  go_upto_region 4 with fail
  have C := Lib.hid (And.intro (B.out.1.trans1 fG) (And.intro (B.out.2.1.frame fG (by simp)) (And.intro (B.out.2.2.1.frame fG (by simp)) (And.intro (B.out.2.2.2.1.frame fG (by simp)) (B.out.2.2.2.2.frame fG (by simp))))))
  clear fG f1 B
  generalize w1.alloc (.cells #[.int .i64 gk, .int .i64 ga, .int .i64 gb] 112) = w2 at *
  go_wp2_with (go_at_call 50; refine (new_any budget _).mono ?_)
  rintro e w3 ⟨qb, rfl, Q, s3, f3, n3⟩
  have c8 := (C.out.2.2.2.2.frame f3 (by simp))
  have x8 := c8.at 0 rfl
  have z8 := c8.frozen 0
  have hcq : ∀ c, c < w2.heap.size → c ∉ Q := fun c hc hm => by have := n3 c hm; omega
  have D3 := Lib.hid (And.intro s3 (And.intro f3 (And.intro n3 (And.intro c8 hcq))))
  clear s3 f3 n3 c8 hcq
  go_upto_region 6 with fail
  clear x8 z8
  have hw2 : w.heap.size + 1 + 1 + 1 < w2.heap.size := C.out.2.2.2.2.lt
  have hw23 := D3.out.2.1.size
  have f36 : Frame [w.heap.size + 1 + 1 + 1] w3 (((w3.setCell ⟨w.heap.size + 1 + 1 + 1, 0, none⟩ (.pointer (some ⟨qb, 0, none⟩))).alloc (.map #[] 0)).alloc (.cells #[.map (some w3.heap.size)] 131)) := ((Frame.setCell _ _ _ (by simp)).trans1 (Frame.alloc _ _ _)).trans1 (Frame.alloc _ _ _)
  have k2 := (((D3.out.2.2.2.1.set 0 (.pointer (some ⟨qb, 0, none⟩)))).alloc (.map #[] 0)).alloc (.cells #[.map (some w3.heap.size)] 131)
  have k3 := Blk.new ((w3.setCell ⟨w.heap.size + 1 + 1 + 1, 0, none⟩ (.pointer (some ⟨qb, 0, none⟩))).alloc (.map #[] 0)) 131 #[.map (some w3.heap.size)]
  have im := (IMap.new (fun _ => 0) (w3.setCell ⟨w.heap.size + 1 + 1 + 1, 0, none⟩ (.pointer (some ⟨qb, 0, none⟩)))).frame (Frame.alloc [] _ (.cells #[.map (some w3.heap.size)] 131)) (by simp)
  have hs3 : (w3.setCell ⟨w.heap.size + 1 + 1 + 1, 0, none⟩ (.pointer (some ⟨qb, 0, none⟩))).heap.size = w3.heap.size := by simp [World.setCell]
  simp only [World.size_alloc, hs3] at k3 im
  have hs6 : (((w3.setCell ⟨w.heap.size + 1 + 1 + 1, 0, none⟩ (.pointer (some ⟨qb, 0, none⟩))).alloc (.map #[] 0)).alloc (.cells #[.map (some w3.heap.size)] 131)).heap.size = w3.heap.size + 2 := by simp [hs3]
  obtain ⟨w6, hw6⟩ : ∃ w6, (((w3.setCell ⟨w.heap.size + 1 + 1 + 1, 0, none⟩ (.pointer (some ⟨qb, 0, none⟩))).alloc (.map #[] 0)).alloc (.cells #[.map (some w3.heap.size)] 131)) = w6 := ⟨_, rfl⟩
  rw [hw6] at f36 k2 k3 im hs6 ⊢
  clear hw6 hs3
  have n3 : w.heap.size + 1 + 1 + 1 ∉ Q := D3.out.2.2.2.2 _ hw2
  have sq := D3.out.1.frame f36 (fun x hx => by simp; rintro rfl; exact n3 hx)
  have f06 : Frame [] w w6 := (C.out.1.trans1 D3.out.2.1).trans f36 (fun x hx => by simp at hx; exact .inr (by omega))
  have bx : Bxs w.heap.size (w.heap.size + 1) (w.heap.size + 1 + 1 + 1) (w3.heap.size + 1) (w.heap.size + 1 + 1) pb root qb w3.heap.size (.slice ta ts.length tc) w6 :=
    ⟨(C.out.2.1.frame D3.out.2.1 (by simp)).frame f36 (by simp only [List.mem_singleton]; omega), (C.out.2.2.1.frame D3.out.2.1 (by simp)).frame f36 (by simp only [List.mem_singleton]; omega), k2, k3, (C.out.2.2.2.1.frame D3.out.2.1 (by simp)).frame f36 (by simp only [List.mem_singleton]; omega)⟩
  have nQ : ∀ c, c < w2.heap.size → c ∉ w3.heap.size :: Q := fun c hc hm => by
    rcases List.mem_cons.mp hm with e | e
    · omega
    · exact D3.out.2.2.2.2 c hc e
  have hq3 := D3.out.1.lt
  have nB : w3.heap.size + 1 ∉ w3.heap.size :: Q := fun hm => by
    rcases List.mem_cons.mp hm with e | e
    · omega
    · have := hq3 _ e; omega
  have nM : w3.heap.size ∉ Q := fun hm => by have := hq3 _ hm; omega
  have hzw : ∀ x ∈ F, x ∉ w3.heap.size :: Q := fun x hx => nQ x (by have := HZ.out x hx; omega)
  have htw : ts ≠ [] → RdI.Apart ta (w3.heap.size :: Q) := fun h0 b off e => nQ b (by have := HT.out.2 h0 b off e; omega)
  have hR1 := (fun w7 (f7 : Frame [] w6 w7) => restrict1_any w.heap.size (w.heap.size + 1) (w.heap.size + 1 + 1 + 1) (w3.heap.size + 1) (w.heap.size + 1 + 1) pb F l left HI.out root hr hlen qb Q (room budget) w3.heap.size ta tc ts htl (fun t => decide (t ∈ ts)) (by simp) w7
    (H.out.frame0 (f06.trans1 f7)) (sq.frame0 f7) (im.frame f7 (by simp)) (HT.out.1.frame (f06.trans1 f7)) (bx.frame f7 (by simp)) ⟨nQ _ (by omega), nQ _ (by omega), nQ _ (by omega), nB, nQ _ (by omega)⟩ hzw nM htw)
  rw [HFIN.out] at hR1
  have R1 := Lib.hid hR1
  clear hR1
  have X := Lib.hid (And.intro f06 (And.intro bx (And.intro hs6 (And.intro hq3 (And.intro nQ (And.intro n3 (And.intro nM nB)))))))
  have QW : Hid (∀ x ∈ Q, w.heap.size ≤ x) := fun x hx => by have := D3.out.2.2.1 x hx; omega
  clear f36 k2 k3 im sq f06 bx nQ n3 nM hzw htw hq3 hs6 D3 C nB
  generalize hmb : w3.heap.size = mb at *
  have SL : Hid (∀ x ∈ mb :: Q, x < w6.heap.size) := by
    intro x hx
    rcases List.mem_cons.mp hx with e | e
    · have := X.out.2.2.1; omega
    · have := X.out.2.2.1; have := X.out.2.2.2.1 x e; omega
  clear hmb
  have hmem : root ∈ reach l root := mem_reach.mpr ⟨Nat.le_refl root, reachM_root l root⟩
  have HMM := Lib.hid hmem
  clear hmem
  by_cases he : fin.e = 0
  · have HE := Lib.hid he
    clear he
    have CT := Lib.hid (catch_ret 83 #[.pointer (some ⟨w.heap.size, 0, none⟩), .pointer (some ⟨w.heap.size + 1, 0, none⟩), .pointer (some ⟨w.heap.size + 1 + 1 + 1, 0, none⟩), .pointer (some ⟨mb + 1, 0, none⟩), .pointer (some ⟨w.heap.size + 1 + 1, 0, none⟩)] w6
      (fun w'' => ∃ Q', St w'' qb Q' fin.l fin.left ∧ (∀ x ∈ Q', w.heap.size ≤ x) ∧ IMap fin.bm w'' mb (reach l root) ∧ Frame [] w w'' ∧ Blk w'' (w.heap.size + 1 + 1 + 1) 26 #[.pointer (some ⟨qb, 0, none⟩)] ∧ Blk w'' (w.heap.size + 1) 3 #[.int .i64 root] ∧ Blk w'' (mb + 1) 131 #[.map (some mb)] ∧ ∀ x ∈ Q', x ≠ w.heap.size + 1 + 1 + 1) (mb :: Q) entered_restr1 SL.out (fun w7 f7 hz7 => (R1.out w7 f7).mono fun e w' hR => by
        obtain ⟨rfl, Q', s1, s2, s3, s4⟩ := hR.1 HE.out
        have hx8 : w.heap.size + 1 + 1 + 1 < w6.heap.size := X.out.2.1.k2.lt
        have hx5 : w.heap.size + 1 < w6.heap.size := X.out.2.1.k1.lt
        have hx13 : mb + 1 < w6.heap.size := X.out.2.1.k3.lt
        have hmq : ∀ x ∈ Q', x < w6.heap.size → x ∈ Q := fun x hx hl => by
          rcases s2 x hx with h | h
          · exact h
          · omega
        have f67 : Frame (mb :: Q) w6 w' := (f7.mono (by simp)).trans1 s4
        refine ⟨rfl, s4, fun w'' f8 => ⟨Q', s1.frame f8 (fun x hx hm => ?_), fun x hx => ?_, s3.frame f8 ?_, ((X.out.1.trans f67 (fun x hx => ?_)).trans f8 (fun x hx => ?_)), (X.out.2.1.k2.frame f67 (X.out.2.2.2.2.1 _ (by omega))).frame f8 ?_, (X.out.2.1.k1.frame f67 (X.out.2.2.2.2.1 _ (by omega))).frame f8 ?_, (X.out.2.1.k3.frame f67 X.out.2.2.2.2.2.2.2).frame f8 ?_, fun x hx e => ?_⟩⟩
        · simp at hm
          rcases s2 x hx with h | h
          · have := SL.out x (by simp [h]); omega
          · omega
        · rcases s2 x hx with h | h
          · exact QW.out x h
          · omega
        · have := SL.out mb (by simp); simp; omega
        · rcases List.mem_cons.mp hx with e | e
          · exact .inr (by omega)
          · exact .inr (QW.out x e)
        · simp at hx; exact .inr (by omega)
        · simp; omega
        · simp; omega
        · simp; omega
        · exact X.out.2.2.2.2.2.1 (e ▸ hmq x hx (by omega))))
    clear R1
    go_wp2_with fail
    refine CT.out.mono ?_
    rintro e w9 ⟨rfl, Q', s9, q9, im9, f9, b8, b5, b13, n9⟩
    have y8 := b8.at 0 rfl
    have y5 := b5.at 0 rfl
    have y13 := b13.at 0 rfl
    have z8 := b8.frozen 0
    have hne : mb ≠ w.heap.size + 1 + 1 + 1 := by have := hw23; omega
    have hlk1 := im9.look HMM.out w9.drew (Frame.drew _ _)
    have hlk2 := (im9.frame (Frame.setCell (S := [w.heap.size + 1 + 1 + 1]) w9 ⟨w.heap.size + 1 + 1 + 1, 0, none⟩ (.pointer (some ⟨qb, 0, none⟩)) (by simp)) (by simpa using hne)).look HMM.out ((w9.setCell ⟨w.heap.size + 1 + 1 + 1, 0, none⟩ (.pointer (some ⟨qb, 0, none⟩))).drew) (Frame.drew _ _)
    have hlk3 := (im9.frame (Frame.setCell (S := [w.heap.size + 1 + 1 + 1]) w9 ⟨w.heap.size + 1 + 1 + 1, 0, none⟩ (.pointer (some ⟨qb, 0, none⟩)) (by simp)) (by simpa using hne)).look HMM.out (w9.drew.setCell ⟨w.heap.size + 1 + 1 + 1, 0, none⟩ (.pointer (some ⟨qb, 0, none⟩))) (by rw [World.setCell_drew]; exact Frame.drew _ _)
    have Z := Lib.hid (And.intro s9 (And.intro q9 (And.intro f9 (And.intro b8 n9))))
    clear s9 q9 im9 f9 b8 b5 b13 n9 CT
    go_upto_region 9 with fail
    go_region
    clear hlk1 hlk2 hlk3 y8 y5 y13 z8
    have f10 : Frame [w.heap.size + 1 + 1 + 1] w9 (w9.setCell ⟨w.heap.size + 1 + 1 + 1, 0, none⟩ (.pointer (some ⟨qb, 0, none⟩))).drew := (Frame.setCell _ _ _ (by simp)).trans1 (Frame.drew _ _)
    have y9 := ((Z.out.2.2.2.1.set 0 (.pointer (some ⟨qb, 0, none⟩))).drew).at 0 rfl
    generalize (w9.setCell ⟨w.heap.size + 1 + 1 + 1, 0, none⟩ (.pointer (some ⟨qb, 0, none⟩))).drew = w10 at *
    go_wp2_with fail
    refine bodyPost_ret (v := .tuple #[.pointer (some ⟨qb, 0, none⟩), .int .i64 (fin.bm root), .int .i64 0]) (by simp [results, Tryz.results32, go_sem, y9]) rfl ⟨fun _ => ⟨qb, Q', rfl, Z.out.1.frame f10 (fun x hx hm => Z.out.2.2.2.2 x hx (by simpa using hm)), Z.out.2.1⟩, fun h => absurd HE.out h, Z.out.2.2.1.trans f10 (fun x hx => by simp at hx; exact .inr (by omega))⟩
  · have HE := Lib.hid he
    clear he
    have CT := Lib.hid (catch_bailE 83 #[.pointer (some ⟨w.heap.size, 0, none⟩), .pointer (some ⟨w.heap.size + 1, 0, none⟩), .pointer (some ⟨w.heap.size + 1 + 1 + 1, 0, none⟩), .pointer (some ⟨mb + 1, 0, none⟩), .pointer (some ⟨w.heap.size + 1 + 1, 0, none⟩)] w6
      (fun w'' => Frame [] w w'' ∧ Blk w'' (w.heap.size + 1 + 1 + 1) 26 #[.pointer (some ⟨qb, 0, none⟩)]) (mb :: Q) fin.e entered_restr1 SL.out (fun w7 f7 hz7 => (R1.out w7 f7).mono fun e w' hR => by
        obtain ⟨chain, at_, rfl, s1, s4⟩ := hR.2 HE.out
        have hx8 : w.heap.size + 1 + 1 + 1 < w6.heap.size := X.out.2.1.k2.lt
        have f67 : Frame (mb :: Q) w6 w' := (f7.mono (by simp)).trans1 s4
        refine ⟨chain, at_, rfl, s1, s4, fun w'' f8 => ⟨((X.out.1.trans f67 (fun x hx => ?_)).trans f8 (fun x hx => ?_)), (X.out.2.1.k2.frame f67 (X.out.2.2.2.2.1 _ (by omega))).frame f8 ?_⟩⟩
        · rcases List.mem_cons.mp hx with e | e
          · exact .inr (by omega)
          · exact .inr (QW.out x e)
        · simp at hx; exact .inr (by omega)
        · simp; omega))
    clear R1
    have hb : (fin.e != 0) = true := by simp [bne, HE.out]
    generalize hfe : fin.e = fe at *
    have HFE := Lib.hid hfe
    clear hfe
    go_wp2_with fail
    refine CT.out.mono ?_
    rintro e w9 ⟨at_, rfl, f9, b8⟩
    have y8 := b8.at 0 rfl
    have z8 := b8.frozen 0
    have Z := Lib.hid (And.intro f9 b8)
    clear f9 b8 CT
    go_wp2_with fail
    have y9 := (Z.out.2.set 0 (.pointer none)).at 0 rfl
    refine bodyPost_ret (v := .tuple #[.pointer none, .int .i64 0, .int .i64 fe]) (by simp [results, Tryz.results32, go_sem, y9]) rfl ⟨fun h => absurd (HFE.out ▸ h) HE.out, fun _ => by show _ = Ending.returned (.tuple #[.pointer none, .int .i64 0, .int .i64 fin.e]); rw [HFE.out], Z.out.1.trans (Frame.setCell (S := [w.heap.size + 1 + 1 + 1]) _ _ _ (by simp)) (fun x hx => by simp at hx; exact .inr (by omega))⟩
end Go.Proofs.YtbnhhmejlglbcaaGreat

