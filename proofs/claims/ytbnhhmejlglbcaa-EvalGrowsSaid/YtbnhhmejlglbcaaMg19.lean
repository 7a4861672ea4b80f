/- eval.gates, in any semiring. (printed by gen_gates.py) -/
import Derived.Test.YtbnhhmejlglbcaaMg08
import Derived.Test.YtbnhhmejlglbcaaMg18
import Derived.Test.YtbnhhmejlglbcaaMg02
namespace Go.Proofs.Ytbnhhmejlglbcaa
open Go.RowKit
set_option linter.unusedSimpArgs false
set_option linter.unusedVariables false

/-- What tokens are worth, where some are worth 0. -/
def killed {V : Type} (R : Rg V) (W : Int → V) (dead : Int → Bool) : Int → V := fun t => if dead t = true then R.z else W t
def GatesEnd {V : Type} (Is : World → Value → V → Prop) (vs : Nat → V) (ks : List Nat) (w : World) (e : Ending) (w' : World) : Prop := ∃ mb, e = .returned (.map (some mb)) ∧ GMap Is vs w' mb ks ∧ Frame [] w w'
/-- What a token is worth is told. -/
def WEnd {V : Type} (Is : World → Value → V → Prop) (x : V) (w : World) (e : Ending) (w' : World) : Prop := ∃ v, e = .returned v ∧ Is w' v x ∧ Frame [] w w'

/-- A value's cell, of a value that is kept. -/
def ZK {V : Type} (Is : World → Value → V → Prop) (x : V) (w : World) (b : Nat) (cs : Array Value) : Prop := Blk w b 39 cs ∧ Is w (.agg cs) x
section
variable {V : Type} {Is : World → Value → V → Prop} {x : V} {w w' : World} {b b' : Nat} {cs cs' : Array Value} {vs : Nat → V} {mb : Nat} {ks : List Nat}
theorem ZK.frame0 (kp : Kept Is) (h : ZK Is x w b cs) (f : Frame [] w w') : ZK Is x w' b cs := ⟨h.1.frame f (by simp), kp _ _ _ _ h.2 (KeepD.of0 f)⟩
theorem ZK.blk (kp : Kept Is) (h : ZK Is x w b cs) (f : Frame [b'] w w') (hb : Blk w b' 39 cs') (hne : b ≠ b') : ZK Is x w' b cs := ⟨h.1.frame f (by simpa using hne), kp _ _ _ _ h.2 (KeepD.blk f hb (by decide))⟩
theorem ZK.map (kp : Kept Is) (h : ZK Is x w b cs) (f : Frame [mb] w w') (g : GMap Is vs w mb ks) : ZK Is x w' b cs := by
  obtain ⟨es, g1, -⟩ := g
  exact ⟨h.1.frame f (by simpa using h.1.ne_m g1), kp _ _ _ _ h.2 (KeepD.map f g1)⟩
theorem GMap.blk (kp : Kept Is) (h : GMap Is vs w mb ks) (f : Frame [b'] w w') (hb : Blk w b' 39 cs') : GMap Is vs w' mb ks := by
  obtain ⟨es, g1, g2, g3⟩ := h
  exact ⟨es, g1.frame f (by simp only [List.mem_singleton]; exact fun e => (hb.ne_m g1) e.symm), g2, fun k v hm => let ⟨j, a, b⟩ := g3 k v hm; ⟨j, a, kp _ _ _ _ b (KeepD.blk f hb (by decide))⟩⟩
end
theorem mem_take_nodup {ks : List Nat} (hd : ks.Nodup) {t k : Nat} (hk : ks[t]? = some k) : k ∉ ks.take t := by
  intro hm
  obtain ⟨i, hi, e⟩ := List.mem_iff_getElem.mp hm
  obtain ⟨ht, hk⟩ := List.getElem?_eq_some_iff.mp hk
  rw [List.getElem_take] at e
  simp only [List.length_take] at hi
  have := (List.nodup_iff_pairwise_ne.mp hd)
  rw [List.pairwise_iff_getElem] at this
  exact this i t (by omega) ht (by omega) (e.trans hk.symm)

set_option maxHeartbeats 4000000 in
set_option maxRecDepth 100000 in
theorem gates_any {V : Type} {n : Int} {R : Rg V} {Is : World → Value → V → Prop} {Pl Tm : V → V → Prop} {Sr : V → Prop} (hS : SemOk n R Is Pl Tm Sr)
    (pb : Nat) (F : List Nat) (l : List Gt) (left : Int) (hI : Inv l) (ks : List Nat) (hC : Closed l ks) (hk1 : ks.length ≤ 1000000) (va : Option Addr) (cap : Nat) (G : List Nat)
    (wa : Option Addr) (wn wc : Nat) (ta : Option Addr) (tn tc : Nat) (W : Int → V) (dead : Int → Bool) (w : World) (h : St w pb F l left)
    (hr : Sl w 3 1 encI (.slice va ks.length cap) (ks.map fun j : Nat => (j : Int)) G)
    (hW : ∀ w' t, Frame [] w w' → Calls Try.prog 44 #[.slice wa wn wc, .int .i64 n, .int .i64 t] w' fun e w'' => WEnd Is (W t) w' e w'')
    (hT : ∀ w' x, Frame [] w w' → Calls Try.prog 43 #[.slice ta tn tc, .int .i64 x] w' fun e w'' => e = .returned (.bool (dead x)) ∧ Frame [] w' w'')
    (hF : ∀ k ∈ ks, ∀ g, l[k]? = some g → FitG Pl Tm Sr (worth R (killed R W dead) l) g) :
    Calls Try.prog 27 #[.pointer (some ⟨pb, 0, none⟩), .slice va ks.length cap, .int .i64 n, .slice wa wn wc, .slice ta tn tc] w fun e w' => GatesEnd Is (worth R (killed R W dead) l) ks w e w' := by
  have hmm := @run_makeMap Try.prog
  have hst := fun (w : World) (a : Addr) (q : Nat) (m : Mode) => run_store Try.prog w a (.float .f64 q) m rfl
  have H := Lib.hid h
  have HR := Lib.hid hr
  have HW := Lib.hid hW
  have HT := Lib.hid hT
  have HF := Lib.hid hF
  have S := Lib.hid hS
  have HC := Lib.hid hC
  have HI := Lib.hid hI
  clear h hr hW hT hF hS hC hI
  have KW : Hid (killed R W dead = killed R W dead) := rfl
  generalize hWt : killed R W dead = Wt at *
  have WT := Lib.hid hWt
  clear hWt KW
  go_enter Try.func27, Try.ntmps27
  go_wp2_with fail
  refine (S.out.zero _).mono ?_
  rintro e w1 ⟨z, rfl, iz, f1⟩
  obtain ⟨zi, za, zl, zc, zv, zf, rfl⟩ := S.out.form iz
  have IZ := Lib.hid iz
  have F1 := Lib.hid (f1 : Frame [] _ w1)
  clear iz f1
  have MB := Lib.hid ((GMap.new Is (worth R Wt l) w).frame0 S.out.keep F1.out)
  have FA := Lib.hid ((Frame.alloc [] w (.map #[] 0)).trans1 F1.out)
  clear F1 hmm
  go_upto_region 3 with fail
  have BZ := Lib.hid (Blk.new w1 39 #[.int .i64 n, .bool zi, .slice za zl zc, .int .i64 zv, .float .f64 zf])
  have IZ2 := Lib.hid (S.out.keep _ _ _ _ IZ.out (KeepD.of0 (Frame.alloc [] w1 (.cells #[.int .i64 n, .bool zi, .slice za zl zc, .int .i64 zv, .float .f64 zf] 39))))
  have MB2 := Lib.hid (MB.out.frame0 S.out.keep (Frame.alloc [] w1 (.cells #[.int .i64 n, .bool zi, .slice za zl zc, .int .i64 zv, .float .f64 zf] 39)))
  have FA2 := Lib.hid (FA.out.trans1 (Frame.alloc [] w1 (.cells #[.int .i64 n, .bool zi, .slice za zl zc, .int .i64 zv, .float .f64 zf] 39)))
  have MBN : Hid (w.heap.size ≤ w.heap.size) := Nat.le_refl _
  clear IZ MB FA
  generalize w1.alloc (.cells #[.int .i64 n, .bool zi, .slice za zl zc, .int .i64 zv, .float .f64 zf] 39) = w2 at *
  generalize w1.heap.size = bz at *
  generalize hmb : w.heap.size = mb at *
  have HMB := Lib.hid hmb
  clear hmb
  go_wp2_with fail
  go_loopw [15, 16, 17, 18, 27] (fun _ _ _ _ i wr => ∃ t : Nat, t ≤ ks.length ∧ i = .int .i64 t ∧ Hid (Frame [] w wr ∧ GMap Is (worth R Wt l) wr mb (ks.take t) ∧ ZK Is R.z wr bz #[.int .i64 n, .bool zi, .slice za zl zc, .int .i64 zv, .float .f64 zf])) (fun _ _ _ _ i _ => (ks.length - intOf i).toNat)
  case atStart => exact ⟨0, Nat.zero_le _, rfl, Lib.hid ⟨FA2.out, MB2.out, BZ.out, IZ2.out⟩⟩
  case round =>
    rename World => wr
    obtain ⟨t, ht, rfl, hR⟩ := hrel
    by_cases hlt : t < ks.length
    · have hj : ks[t]? = some ks[t] := by simp [hlt]
      have hkm : ks[t] ∈ ks := List.getElem_mem hlt
      generalize ks[t] = k at *
      have hkl := HC.out.lt k hkm
      have hg : l[k]? = some l[k] := by simp [hkl]
      generalize l[k] = g at *
      have hwk := worth_at (R := R) (w := Wt) HI.out hg
      have hfg := HF.out k hkm g hg
      have hc2 := HC.out.two t k g hj hg
      have hc1 := HC.out.one t k g hj hg
      have KS := Lib.hid (And.intro (take_one hj) (mem_take_nodup HC.out.nodup hj))
      obtain ⟨fr, gm, zk⟩ := hR.out
      obtain ⟨b9, cap9, hq, -, -, hc⟩ := (HR.out.frame0 fr).cell encI_len (k := t) (x := (k : Int)) (by simp [hj])
      simp only [Value.slice.injEq, List.length_map] at hq
      obtain ⟨rfl, -, rfl⟩ := hq
      have r0 := hc 0 _ rfl
      simp only [Nat.mul_one, Nat.add_zero] at r0
      have GA := Lib.hid (gate_get_any pb F l left k g wr (H.out.frame0 fr) hg)
      obtain ⟨gk, ga, gb⟩ := g
      have FR := Lib.hid fr
      have GMR := Lib.hid gm
      have ZKR := Lib.hid zk
      have HWK := Lib.hid hwk
      have HFG := Lib.hid hfg
      have HC2 := Lib.hid hc2
      have HC1 := Lib.hid hc1
      clear hj hkm hg hwk hfg hc2 hc1 hc fr gm zk hkl
      go_wp2_with fail
      refine GA.out.mono ?_
      rintro e w6 ⟨rfl, f6⟩
      have ZK6 := Lib.hid (ZKR.out.frame0 S.out.keep f6)
      have GM6 := Lib.hid (GMR.out.frame0 S.out.keep f6)
      have F6 := Lib.hid (FR.out.trans1 f6)
      clear f6 GA FR GMR ZKR r0
      have za0 := (ZK6.out.1.alloc (.cells #[.int .i64 gk, .int .i64 ga, .int .i64 gb] 64)).at 0 rfl
      have za1 := (ZK6.out.1.alloc (.cells #[.int .i64 gk, .int .i64 ga, .int .i64 gb] 64)).at 1 rfl
      have za2 := (ZK6.out.1.alloc (.cells #[.int .i64 gk, .int .i64 ga, .int .i64 gb] 64)).at 2 rfl
      have za3 := (ZK6.out.1.alloc (.cells #[.int .i64 gk, .int .i64 ga, .int .i64 gb] 64)).at 3 rfl
      have za4 := (ZK6.out.1.alloc (.cells #[.int .i64 gk, .int .i64 ga, .int .i64 gb] 64)).at 4 rfl
      go_upto_region 8 with fail
      clear za0 za1 za2 za3 za4
      have f7 : Frame [] w6 ((w6.alloc (.cells #[.int .i64 gk, .int .i64 ga, .int .i64 gb] 64)).alloc (.cells #[.int .i64 n, .bool zi, .slice za zl zc, .int .i64 zv, .float .f64 zf] 39)) := by (repeat first | assumption | exact Frame.refl _ _ | refine Frame.trans1 ?_ (Frame.alloc _ _ _) | refine Frame.trans1 ?_ (Frame.drew _ _) | refine Frame.trans1 ?_ (Frame.drewN _ _ _))
      have hBG := (Blk.new w6 64 #[.int .i64 gk, .int .i64 ga, .int .i64 gb]).alloc (.cells #[.int .i64 n, .bool zi, .slice za zl zc, .int .i64 zv, .float .f64 zf] 39)
      have hBV := Blk.new (w6.alloc (.cells #[.int .i64 gk, .int .i64 ga, .int .i64 gb] 64)) 39 #[.int .i64 n, .bool zi, .slice za zl zc, .int .i64 zv, .float .f64 zf]
      simp only [World.size_alloc] at hBV
      have NB : Hid (w.heap.size ≤ w6.heap.size + 1 ∧ bz ≠ w6.heap.size + 1) := by
        show w.heap.size ≤ w6.heap.size + 1 ∧ bz ≠ w6.heap.size + 1
        have h1 := F6.out.size
        have h2 := ZK6.out.1.lt
        omega
      generalize (w6.alloc (.cells #[.int .i64 gk, .int .i64 ga, .int .i64 gb] 64)).alloc (.cells #[.int .i64 n, .bool zi, .slice za zl zc, .int .i64 zv, .float .f64 zf] 39) = w7 at *
      generalize w6.heap.size + 1 = bv at *
      generalize w6.heap.size = bg at *
      have g0 := hBG.at 0 rfl
      have g1 := hBG.at 1 rfl
      have g2 := hBG.at 2 rfl
      have ZK7 := Lib.hid (ZK6.out.frame0 S.out.keep f7)
      have GM7 := Lib.hid (GM6.out.frame0 S.out.keep f7)
      have F7 := Lib.hid (F6.out.trans1 f7)
      have BV7 := Lib.hid hBV
      have BG7 := Lib.hid hBG
      clear hBG hBV f7 ZK6 GM6 F6
      by_cases k2 : gk = 2
      · subst k2
        have hq : worth R Wt l k = R.o := HWK.out.trans (by simp [gval])
        have HQ := Lib.hid hq
        clear hq
        go_wp2_with fail
        refine (S.out.one _).mono ?_
        rintro e w8 ⟨u, rfl, is8, f8⟩
        obtain ⟨ui, ua, ul, uc, uv, uf, rfl⟩ := S.out.form is8
        rw [← HQ.out] at is8
        have BV8 := Lib.hid (BV7.out.frame f8 (by simp))
        have y0 := BV8.out.at 0 rfl
        have y1 := BV8.out.at 1 rfl
        have y2 := BV8.out.at 2 rfl
        have y3 := BV8.out.at 3 rfl
        have y4 := BV8.out.at 4 rfl
        have z0 := BV8.out.frozen
        have GM8 := Lib.hid (GM7.out.frame0 S.out.keep f8)
        have ZK8 := Lib.hid (ZK7.out.frame0 S.out.keep f8)
        have F8 := Lib.hid (F7.out.trans1 f8)
        have IS8 := Lib.hid is8
        clear f8 is8
        go_upto_region 20 with fail
        have hB9 := putV BV8.out (.int .i64 n) (.bool ui) (.slice ua ul uc) (.int .i64 uv) (.float .f64 uf)
        have hF9 : Frame [bv] w8 (((((w8.setCell ⟨bv, 0, none⟩ (.int .i64 n)).setCell ⟨bv, 1, none⟩ (.bool ui)).setCell ⟨bv, 2, none⟩ (.slice ua ul uc)).setCell ⟨bv, 3, none⟩ (.int .i64 uv)).setCell ⟨bv, 4, none⟩ (.float .f64 uf)) := by
          have st : ∀ {x : World} (f : Frame [bv] w8 x) (i : Nat) (v : Value), Frame [bv] w8 (x.setCell ⟨bv, i, none⟩ v) := fun f i v => f.trans1 (Frame.setCell (S := [bv]) _ _ _ (by simp))
          exact st (st (st (st (st (Frame.refl _ _) 0 _) 1 _) 2 _) 3 _) 4 _
        clear y0 y1 y2 y3 y4 z0
        generalize (((((w8.setCell ⟨bv, 0, none⟩ (.int .i64 n)).setCell ⟨bv, 1, none⟩ (.bool ui)).setCell ⟨bv, 2, none⟩ (.slice ua ul uc)).setCell ⟨bv, 3, none⟩ (.int .i64 uv)).setCell ⟨bv, 4, none⟩ (.float .f64 uf)) = w9 at *
        have x0 := hB9.at 0 rfl
        have x1 := hB9.at 1 rfl
        have x2 := hB9.at 2 rfl
        have x3 := hB9.at 3 rfl
        have x4 := hB9.at 4 rfl
        have GM9 := Lib.hid (GM8.out.blk S.out.keep hF9 BV8.out)
        have ZK9 := Lib.hid (ZK8.out.blk S.out.keep hF9 BV8.out NB.out.2)
        have IS9 := Lib.hid (S.out.keep _ _ _ _ IS8.out (KeepD.blk hF9 BV8.out (by decide)))
        have F9 := Lib.hid (F8.out.trans hF9 (fun x hx => .inr (by simp at hx; subst hx; exact NB.out.1)))
        clear hB9 hF9 GM8 IS8 F8 ZK8
        obtain ⟨wm, hup, gm2, fm⟩ := GM9.out.put S.out.keep (KS.out.2) IS9.out
        have U := Lib.hid (And.intro gm2 (And.intro fm (ZK9.out.map S.out.keep fm GM9.out)))
        clear gm2 fm
        go_wp2_with fail
        go_roundw
        case rel => exact ⟨t + 1, by omega, by first | rfl | go_num, Lib.hid ⟨F9.out.trans U.out.2.1 (fun x hx => .inr (by simp at hx; subst hx; exact Nat.le_of_eq HMB.out)), by rw [KS.out.1]; exact U.out.1, U.out.2.2⟩⟩
        case measure => first | (simp [intOf]; done) | (simp [intOf]; omega)
      by_cases k3 : gk = 3
      · subst k3
        clear k2
        have hc0 := HT.out w7 ga F7.out
        have HQ : Hid (worth R Wt l k = killed R W dead ga) := by show _ = _; exact HWK.out.trans (by simp [gval, WT.out])
        generalize hd : dead ga = d at *
        have HD := Lib.hid hd
        have HC0 := Lib.hid hc0
        clear hd hc0
        go_wp2_with fail
        refine HC0.out.mono ?_
        rintro e w70 ⟨rfl, f70⟩
        cases d with
        | true =>
          have HQ2 : Hid (worth R Wt l k = R.z) := by show _ = _; rw [HQ.out, killed, if_pos HD.out]
          have ZK7 := Lib.hid (ZK7.out.frame0 S.out.keep f70)
          have GM7 := Lib.hid (GM7.out.frame0 S.out.keep f70)
          have BV7 := Lib.hid (BV7.out.frame f70 (by simp))
          have F7 := Lib.hid (F7.out.trans1 f70)
          clear f70
          have IS9 : Hid (Is w70 (.agg #[.int .i64 n, .bool zi, .slice za zl zc, .int .i64 zv, .float .f64 zf]) (worth R Wt l k)) := by show Is _ _ _; rw [HQ2.out]; exact ZK7.out.2
          have x0 := BV7.out.at 0 rfl
          have x1 := BV7.out.at 1 rfl
          have x2 := BV7.out.at 2 rfl
          have x3 := BV7.out.at 3 rfl
          have x4 := BV7.out.at 4 rfl
          have GM9 := GM7
          have ZK9 := ZK7
          have F9 := F7
          obtain ⟨wm, hup, gm2, fm⟩ := GM9.out.put S.out.keep (KS.out.2) IS9.out
          have U := Lib.hid (And.intro gm2 (And.intro fm (ZK9.out.map S.out.keep fm GM9.out)))
          clear gm2 fm
          go_wp2_with fail
          go_roundw
          case rel => exact ⟨t + 1, by omega, by first | rfl | go_num, Lib.hid ⟨F9.out.trans U.out.2.1 (fun x hx => .inr (by simp at hx; subst hx; exact Nat.le_of_eq HMB.out)), by rw [KS.out.1]; exact U.out.1, U.out.2.2⟩⟩
          case measure => first | (simp [intOf]; done) | (simp [intOf]; omega)
        | false =>
          have HQ2 : Hid (worth R Wt l k = W ga) := by show _ = _; rw [HQ.out, killed, if_neg (by rw [HD.out]; simp)]
          have ZK7 := Lib.hid (ZK7.out.frame0 S.out.keep f70)
          have GM7 := Lib.hid (GM7.out.frame0 S.out.keep f70)
          have BV7 := Lib.hid (BV7.out.frame f70 (by simp))
          have F7 := Lib.hid (F7.out.trans1 f70)
          have g1 := (BG7.out.frame f70 (by simp)).at 1 rfl
          clear f70
          go_wp2_with fail
          refine (HW.out w70 ga F7.out).mono ?_
          rintro e w8 ⟨u, rfl, is8, f8⟩
          obtain ⟨ui, ua, ul, uc, uv, uf, rfl⟩ := S.out.form is8
          rw [← HQ2.out] at is8
          have BV8 := Lib.hid (BV7.out.frame f8 (by simp))
          have y0 := BV8.out.at 0 rfl
          have y1 := BV8.out.at 1 rfl
          have y2 := BV8.out.at 2 rfl
          have y3 := BV8.out.at 3 rfl
          have y4 := BV8.out.at 4 rfl
          have z0 := BV8.out.frozen
          have GM8 := Lib.hid (GM7.out.frame0 S.out.keep f8)
          have ZK8 := Lib.hid (ZK7.out.frame0 S.out.keep f8)
          have F8 := Lib.hid (F7.out.trans1 f8)
          have IS8 := Lib.hid is8
          clear f8 is8
          go_upto_region 20 with fail
          have hB9 := putV BV8.out (.int .i64 n) (.bool ui) (.slice ua ul uc) (.int .i64 uv) (.float .f64 uf)
          have hF9 : Frame [bv] w8 (((((w8.setCell ⟨bv, 0, none⟩ (.int .i64 n)).setCell ⟨bv, 1, none⟩ (.bool ui)).setCell ⟨bv, 2, none⟩ (.slice ua ul uc)).setCell ⟨bv, 3, none⟩ (.int .i64 uv)).setCell ⟨bv, 4, none⟩ (.float .f64 uf)) := by
            have st : ∀ {x : World} (f : Frame [bv] w8 x) (i : Nat) (v : Value), Frame [bv] w8 (x.setCell ⟨bv, i, none⟩ v) := fun f i v => f.trans1 (Frame.setCell (S := [bv]) _ _ _ (by simp))
            exact st (st (st (st (st (Frame.refl _ _) 0 _) 1 _) 2 _) 3 _) 4 _
          clear y0 y1 y2 y3 y4 z0
          generalize (((((w8.setCell ⟨bv, 0, none⟩ (.int .i64 n)).setCell ⟨bv, 1, none⟩ (.bool ui)).setCell ⟨bv, 2, none⟩ (.slice ua ul uc)).setCell ⟨bv, 3, none⟩ (.int .i64 uv)).setCell ⟨bv, 4, none⟩ (.float .f64 uf)) = w9 at *
          have x0 := hB9.at 0 rfl
          have x1 := hB9.at 1 rfl
          have x2 := hB9.at 2 rfl
          have x3 := hB9.at 3 rfl
          have x4 := hB9.at 4 rfl
          have GM9 := Lib.hid (GM8.out.blk S.out.keep hF9 BV8.out)
          have ZK9 := Lib.hid (ZK8.out.blk S.out.keep hF9 BV8.out NB.out.2)
          have IS9 := Lib.hid (S.out.keep _ _ _ _ IS8.out (KeepD.blk hF9 BV8.out (by decide)))
          have F9 := Lib.hid (F8.out.trans hF9 (fun x hx => .inr (by simp at hx; subst hx; exact NB.out.1)))
          clear hB9 hF9 GM8 IS8 F8 ZK8
          obtain ⟨wm, hup, gm2, fm⟩ := GM9.out.put S.out.keep (KS.out.2) IS9.out
          have U := Lib.hid (And.intro gm2 (And.intro fm (ZK9.out.map S.out.keep fm GM9.out)))
          clear gm2 fm
          go_wp2_with fail
          go_roundw
          case rel => exact ⟨t + 1, by omega, by first | rfl | go_num, Lib.hid ⟨F9.out.trans U.out.2.1 (fun x hx => .inr (by simp at hx; subst hx; exact Nat.le_of_eq HMB.out)), by rw [KS.out.1]; exact U.out.1, U.out.2.2⟩⟩
          case measure => first | (simp [intOf]; done) | (simp [intOf]; omega)
      by_cases k4 : gk = 4
      · subst k4
        clear k2 k3
        obtain ⟨a, b, ha, hb, hma, hmb⟩ := HC2.out (.inl rfl)
        subst ha hb
        obtain ⟨v1, is1, lk1⟩ := GM7.out.look hma
        obtain ⟨v2, is2, lk2⟩ := GM7.out.look hmb
        obtain ⟨pi, pa, pl, pc, pv, pf, rfl⟩ := S.out.form is1
        obtain ⟨qi, qa, ql, qc, qv, qf, rfl⟩ := S.out.form is2
        have HQ : Hid (worth R Wt l k = R.p (worth R Wt l a) (worth R Wt l b)) := by show _ = _; exact HWK.out.trans (by simp [gval])
        have CP := Lib.hid (S.out.plus w7 _ _ _ _ is1 is2 (HFG.out.1 rfl))
        have la := lk1 w7 (Frame.refl _ _)
        have lb := lk2 w7 (Frame.refl _ _)
        clear is1 is2 lk1 lk2 hma hmb
        go_wp2_with fail
        refine (CP.out).mono ?_
        rintro e w8 ⟨u, rfl, is8, f8⟩
        obtain ⟨ui, ua, ul, uc, uv, uf, rfl⟩ := S.out.form is8
        rw [← HQ.out] at is8
        have BV8 := Lib.hid (BV7.out.frame f8 (by simp))
        have y0 := BV8.out.at 0 rfl
        have y1 := BV8.out.at 1 rfl
        have y2 := BV8.out.at 2 rfl
        have y3 := BV8.out.at 3 rfl
        have y4 := BV8.out.at 4 rfl
        have z0 := BV8.out.frozen
        have GM8 := Lib.hid (GM7.out.frame0 S.out.keep f8)
        have ZK8 := Lib.hid (ZK7.out.frame0 S.out.keep f8)
        have F8 := Lib.hid (F7.out.trans1 f8)
        have IS8 := Lib.hid is8
        clear f8 is8
        go_upto_region 20 with fail
        have hB9 := putV BV8.out (.int .i64 n) (.bool ui) (.slice ua ul uc) (.int .i64 uv) (.float .f64 uf)
        have hF9 : Frame [bv] w8 (((((w8.setCell ⟨bv, 0, none⟩ (.int .i64 n)).setCell ⟨bv, 1, none⟩ (.bool ui)).setCell ⟨bv, 2, none⟩ (.slice ua ul uc)).setCell ⟨bv, 3, none⟩ (.int .i64 uv)).setCell ⟨bv, 4, none⟩ (.float .f64 uf)) := by
          have st : ∀ {x : World} (f : Frame [bv] w8 x) (i : Nat) (v : Value), Frame [bv] w8 (x.setCell ⟨bv, i, none⟩ v) := fun f i v => f.trans1 (Frame.setCell (S := [bv]) _ _ _ (by simp))
          exact st (st (st (st (st (Frame.refl _ _) 0 _) 1 _) 2 _) 3 _) 4 _
        clear y0 y1 y2 y3 y4 z0
        generalize (((((w8.setCell ⟨bv, 0, none⟩ (.int .i64 n)).setCell ⟨bv, 1, none⟩ (.bool ui)).setCell ⟨bv, 2, none⟩ (.slice ua ul uc)).setCell ⟨bv, 3, none⟩ (.int .i64 uv)).setCell ⟨bv, 4, none⟩ (.float .f64 uf)) = w9 at *
        have x0 := hB9.at 0 rfl
        have x1 := hB9.at 1 rfl
        have x2 := hB9.at 2 rfl
        have x3 := hB9.at 3 rfl
        have x4 := hB9.at 4 rfl
        have GM9 := Lib.hid (GM8.out.blk S.out.keep hF9 BV8.out)
        have ZK9 := Lib.hid (ZK8.out.blk S.out.keep hF9 BV8.out NB.out.2)
        have IS9 := Lib.hid (S.out.keep _ _ _ _ IS8.out (KeepD.blk hF9 BV8.out (by decide)))
        have F9 := Lib.hid (F8.out.trans hF9 (fun x hx => .inr (by simp at hx; subst hx; exact NB.out.1)))
        clear hB9 hF9 GM8 IS8 F8 ZK8
        obtain ⟨wm, hup, gm2, fm⟩ := GM9.out.put S.out.keep (KS.out.2) IS9.out
        have U := Lib.hid (And.intro gm2 (And.intro fm (ZK9.out.map S.out.keep fm GM9.out)))
        clear gm2 fm
        go_wp2_with fail
        go_roundw
        case rel => exact ⟨t + 1, by omega, by first | rfl | go_num, Lib.hid ⟨F9.out.trans U.out.2.1 (fun x hx => .inr (by simp at hx; subst hx; exact Nat.le_of_eq HMB.out)), by rw [KS.out.1]; exact U.out.1, U.out.2.2⟩⟩
        case measure => first | (simp [intOf]; done) | (simp [intOf]; omega)
      by_cases k5 : gk = 5
      · subst k5
        clear k2 k3 k4
        obtain ⟨a, b, ha, hb, hma, hmb⟩ := HC2.out (.inr rfl)
        subst ha hb
        obtain ⟨v1, is1, lk1⟩ := GM7.out.look hma
        obtain ⟨v2, is2, lk2⟩ := GM7.out.look hmb
        obtain ⟨pi, pa, pl, pc, pv, pf, rfl⟩ := S.out.form is1
        obtain ⟨qi, qa, ql, qc, qv, qf, rfl⟩ := S.out.form is2
        have HQ : Hid (worth R Wt l k = R.t (worth R Wt l a) (worth R Wt l b)) := by show _ = _; exact HWK.out.trans (by simp [gval])
        have CP := Lib.hid (S.out.times w7 _ _ _ _ is1 is2 (HFG.out.2.1 rfl))
        have la := lk1 w7 (Frame.refl _ _)
        have lb := lk2 w7 (Frame.refl _ _)
        clear is1 is2 lk1 lk2 hma hmb
        go_wp2_with fail
        refine (CP.out).mono ?_
        rintro e w8 ⟨u, rfl, is8, f8⟩
        obtain ⟨ui, ua, ul, uc, uv, uf, rfl⟩ := S.out.form is8
        rw [← HQ.out] at is8
        have BV8 := Lib.hid (BV7.out.frame f8 (by simp))
        have y0 := BV8.out.at 0 rfl
        have y1 := BV8.out.at 1 rfl
        have y2 := BV8.out.at 2 rfl
        have y3 := BV8.out.at 3 rfl
        have y4 := BV8.out.at 4 rfl
        have z0 := BV8.out.frozen
        have GM8 := Lib.hid (GM7.out.frame0 S.out.keep f8)
        have ZK8 := Lib.hid (ZK7.out.frame0 S.out.keep f8)
        have F8 := Lib.hid (F7.out.trans1 f8)
        have IS8 := Lib.hid is8
        clear f8 is8
        go_upto_region 20 with fail
        have hB9 := putV BV8.out (.int .i64 n) (.bool ui) (.slice ua ul uc) (.int .i64 uv) (.float .f64 uf)
        have hF9 : Frame [bv] w8 (((((w8.setCell ⟨bv, 0, none⟩ (.int .i64 n)).setCell ⟨bv, 1, none⟩ (.bool ui)).setCell ⟨bv, 2, none⟩ (.slice ua ul uc)).setCell ⟨bv, 3, none⟩ (.int .i64 uv)).setCell ⟨bv, 4, none⟩ (.float .f64 uf)) := by
          have st : ∀ {x : World} (f : Frame [bv] w8 x) (i : Nat) (v : Value), Frame [bv] w8 (x.setCell ⟨bv, i, none⟩ v) := fun f i v => f.trans1 (Frame.setCell (S := [bv]) _ _ _ (by simp))
          exact st (st (st (st (st (Frame.refl _ _) 0 _) 1 _) 2 _) 3 _) 4 _
        clear y0 y1 y2 y3 y4 z0
        generalize (((((w8.setCell ⟨bv, 0, none⟩ (.int .i64 n)).setCell ⟨bv, 1, none⟩ (.bool ui)).setCell ⟨bv, 2, none⟩ (.slice ua ul uc)).setCell ⟨bv, 3, none⟩ (.int .i64 uv)).setCell ⟨bv, 4, none⟩ (.float .f64 uf)) = w9 at *
        have x0 := hB9.at 0 rfl
        have x1 := hB9.at 1 rfl
        have x2 := hB9.at 2 rfl
        have x3 := hB9.at 3 rfl
        have x4 := hB9.at 4 rfl
        have GM9 := Lib.hid (GM8.out.blk S.out.keep hF9 BV8.out)
        have ZK9 := Lib.hid (ZK8.out.blk S.out.keep hF9 BV8.out NB.out.2)
        have IS9 := Lib.hid (S.out.keep _ _ _ _ IS8.out (KeepD.blk hF9 BV8.out (by decide)))
        have F9 := Lib.hid (F8.out.trans hF9 (fun x hx => .inr (by simp at hx; subst hx; exact NB.out.1)))
        clear hB9 hF9 GM8 IS8 F8 ZK8
        obtain ⟨wm, hup, gm2, fm⟩ := GM9.out.put S.out.keep (KS.out.2) IS9.out
        have U := Lib.hid (And.intro gm2 (And.intro fm (ZK9.out.map S.out.keep fm GM9.out)))
        clear gm2 fm
        go_wp2_with fail
        go_roundw
        case rel => exact ⟨t + 1, by omega, by first | rfl | go_num, Lib.hid ⟨F9.out.trans U.out.2.1 (fun x hx => .inr (by simp at hx; subst hx; exact Nat.le_of_eq HMB.out)), by rw [KS.out.1]; exact U.out.1, U.out.2.2⟩⟩
        case measure => first | (simp [intOf]; done) | (simp [intOf]; omega)
      by_cases k6 : gk = 6
      · subst k6
        clear k2 k3 k4 k5
        obtain ⟨a, ha, hma⟩ := HC1.out rfl
        subst ha
        obtain ⟨v1, is1, lk1⟩ := GM7.out.look hma
        obtain ⟨pi, pa, pl, pc, pv, pf, rfl⟩ := S.out.form is1
        have HQ : Hid (worth R Wt l k = R.s (worth R Wt l a)) := by show _ = _; exact HWK.out.trans (by simp [gval])
        have CP := Lib.hid (S.out.star w7 _ _ is1 (HFG.out.2.2 rfl))
        have la := lk1 w7 (Frame.refl _ _)
        clear is1 lk1 hma
        go_wp2_with fail
        refine (CP.out).mono ?_
        rintro e w8 ⟨u, rfl, is8, f8⟩
        obtain ⟨ui, ua, ul, uc, uv, uf, rfl⟩ := S.out.form is8
        rw [← HQ.out] at is8
        have BV8 := Lib.hid (BV7.out.frame f8 (by simp))
        have y0 := BV8.out.at 0 rfl
        have y1 := BV8.out.at 1 rfl
        have y2 := BV8.out.at 2 rfl
        have y3 := BV8.out.at 3 rfl
        have y4 := BV8.out.at 4 rfl
        have z0 := BV8.out.frozen
        have GM8 := Lib.hid (GM7.out.frame0 S.out.keep f8)
        have ZK8 := Lib.hid (ZK7.out.frame0 S.out.keep f8)
        have F8 := Lib.hid (F7.out.trans1 f8)
        have IS8 := Lib.hid is8
        clear f8 is8
        go_upto_region 20 with fail
        have hB9 := putV BV8.out (.int .i64 n) (.bool ui) (.slice ua ul uc) (.int .i64 uv) (.float .f64 uf)
        have hF9 : Frame [bv] w8 (((((w8.setCell ⟨bv, 0, none⟩ (.int .i64 n)).setCell ⟨bv, 1, none⟩ (.bool ui)).setCell ⟨bv, 2, none⟩ (.slice ua ul uc)).setCell ⟨bv, 3, none⟩ (.int .i64 uv)).setCell ⟨bv, 4, none⟩ (.float .f64 uf)) := by
          have st : ∀ {x : World} (f : Frame [bv] w8 x) (i : Nat) (v : Value), Frame [bv] w8 (x.setCell ⟨bv, i, none⟩ v) := fun f i v => f.trans1 (Frame.setCell (S := [bv]) _ _ _ (by simp))
          exact st (st (st (st (st (Frame.refl _ _) 0 _) 1 _) 2 _) 3 _) 4 _
        clear y0 y1 y2 y3 y4 z0
        generalize (((((w8.setCell ⟨bv, 0, none⟩ (.int .i64 n)).setCell ⟨bv, 1, none⟩ (.bool ui)).setCell ⟨bv, 2, none⟩ (.slice ua ul uc)).setCell ⟨bv, 3, none⟩ (.int .i64 uv)).setCell ⟨bv, 4, none⟩ (.float .f64 uf)) = w9 at *
        have x0 := hB9.at 0 rfl
        have x1 := hB9.at 1 rfl
        have x2 := hB9.at 2 rfl
        have x3 := hB9.at 3 rfl
        have x4 := hB9.at 4 rfl
        have GM9 := Lib.hid (GM8.out.blk S.out.keep hF9 BV8.out)
        have ZK9 := Lib.hid (ZK8.out.blk S.out.keep hF9 BV8.out NB.out.2)
        have IS9 := Lib.hid (S.out.keep _ _ _ _ IS8.out (KeepD.blk hF9 BV8.out (by decide)))
        have F9 := Lib.hid (F8.out.trans hF9 (fun x hx => .inr (by simp at hx; subst hx; exact NB.out.1)))
        clear hB9 hF9 GM8 IS8 F8 ZK8
        obtain ⟨wm, hup, gm2, fm⟩ := GM9.out.put S.out.keep (KS.out.2) IS9.out
        have U := Lib.hid (And.intro gm2 (And.intro fm (ZK9.out.map S.out.keep fm GM9.out)))
        clear gm2 fm
        go_wp2_with fail
        go_roundw
        case rel => exact ⟨t + 1, by omega, by first | rfl | go_num, Lib.hid ⟨F9.out.trans U.out.2.1 (fun x hx => .inr (by simp at hx; subst hx; exact Nat.le_of_eq HMB.out)), by rw [KS.out.1]; exact U.out.1, U.out.2.2⟩⟩
        case measure => first | (simp [intOf]; done) | (simp [intOf]; omega)
      · have HQ : Hid (worth R Wt l k = R.z) := by show _ = _; exact HWK.out.trans (by simp [gval, k2, k3, k4, k5, k6])
        have b2 : (gk == 2) = false := by simp [k2]
        have b3 : (gk == 3) = false := by simp [k3]
        have b4 : (gk == 4) = false := by simp [k4]
        have b5 : (gk == 5) = false := by simp [k5]
        have b6 : (gk == 6) = false := by simp [k6]
        clear k2 k3 k4 k5 k6
        have IS9 : Hid (Is w7 (.agg #[.int .i64 n, .bool zi, .slice za zl zc, .int .i64 zv, .float .f64 zf]) (worth R Wt l k)) := by show Is _ _ _; rw [HQ.out]; exact ZK7.out.2
        have x0 := BV7.out.at 0 rfl
        have x1 := BV7.out.at 1 rfl
        have x2 := BV7.out.at 2 rfl
        have x3 := BV7.out.at 3 rfl
        have x4 := BV7.out.at 4 rfl
        have GM9 := GM7
        have ZK9 := ZK7
        have F9 := F7
        obtain ⟨wm, hup, gm2, fm⟩ := GM9.out.put S.out.keep (KS.out.2) IS9.out
        have U := Lib.hid (And.intro gm2 (And.intro fm (ZK9.out.map S.out.keep fm GM9.out)))
        clear gm2 fm
        go_wp2_with fail
        go_roundw
        case rel => exact ⟨t + 1, by omega, by first | rfl | go_num, Lib.hid ⟨F9.out.trans U.out.2.1 (fun x hx => .inr (by simp at hx; subst hx; exact Nat.le_of_eq HMB.out)), by rw [KS.out.1]; exact U.out.1, U.out.2.2⟩⟩
        case measure => first | (simp [intOf]; done) | (simp [intOf]; omega)
    · obtain rfl : t = ks.length := by omega
      obtain ⟨fr, gm, zk⟩ := hR.out
      rw [List.take_length] at gm
      have E := Lib.hid (And.intro gm fr)
      clear gm fr zk hR
      go_wp2_with fail
      go_ret
      exact ⟨mb, rfl, E.out.1, E.out.2⟩
end Go.Proofs.Ytbnhhmejlglbcaa

