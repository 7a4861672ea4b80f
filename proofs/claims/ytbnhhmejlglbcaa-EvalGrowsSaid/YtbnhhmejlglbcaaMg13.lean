/- The reference's store of gates. -/
import Derived.Test.YtbnhhmejlglbcaaMg06
import Derived.Test.YtbnhhmejlglbcaaMg01
namespace Go.Proofs.Ytbnhhmejlglbcaa
open Go.RowKit
set_option linter.unusedSimpArgs false
set_option linter.unusedVariables false

theorem eq_rgate (d : Nat) (g h : Gt) (w : World) : (Op.equalIn (d+2) 61 g.val h.val).run Try.prog w = .ok (decide (g = h)) w := by
  simp [Op.equalIn, Gt.val, go_sem]
  by_cases h1 : g.k = h.k <;> by_cases h2 : g.a = h.a <;> by_cases h3 : g.b = h.b <;> simp [h1, h2, h3] <;> first | (cases g; cases h; simp_all) | (intro e; subst e; simp_all)
theorem equal_rgate (g h : Gt) (w : World) : (Op.equal 61 g.val h.val).run Try.prog w = .ok (decide (g = h)) w := eq_rgate 9998 g h w
theorem run_rgate_eql (g h : Gt) (w : World) : (binOp .eql 61 g.val h.val).run Try.prog w = .ok (.bool (decide (g = h))) w := by
  have := equal_rgate g h w
  simp only [Gt.val] at *
  simp [binOp, this]
theorem noGuardR : Try.prog.eqGuardType Try.prog.depth 61 = false := by kernel_rfl
theorem eqGuard_rgate (x y : Operand) (u v : Array Value) (w : World) : (eqGuard .eql 61 x y (.agg u) (.agg v)).run Try.prog w = .ok () w := by
  have h := noGuardR
  simp [eqGuard, Sem.run_bind, Result.andThen, go_sem, h]
theorem infoRGate : (Try.prog.info? 61).map (fun i => (i.zero, i.size, i.bytes)) = some (some (.agg #[.int .i64 0, .int .i64 0, .int .i64 0]), 3, 24) := by kernel_rfl
theorem gt_len (g : Gt) : g.cs.length = 3 := rfl
theorem gt_one (g : Gt) : ∀ u ∈ g.cs, u.oneCell' = true := by simp [Gt.cs, Value.oneCell']

theorem find_at {g : Gt} : ∀ {l : List Gt} {i k : Nat} (hk : k < l.length), l[k] = g → (∀ j (h : j < l.length), j < k → l[j] ≠ g) → find g l i = some (i + k) := by
  intro l
  induction l with
  | nil => intro i k hk; simp at hk
  | cons a t ih =>
    intro i k hk h1 h2
    cases k with
    | zero => simp at h1; subst h1; simp [find]
    | succ k =>
      have ha : ¬ a = g := h2 0 (by simp) (by omega)
      unfold find
      rw [if_neg (by first | exact ha | exact fun e => ha e.symm)]
      rw [ih (i := i + 1) (k := k) (by simpa using hk) (by simpa using h1) (fun j h hj => by have := h2 (j + 1) (by simpa using h) (by omega); simpa only [List.getElem_cons_succ] using this)]
      congr 1; omega
theorem find_no {g : Gt} : ∀ {l : List Gt} {i : Nat}, (∀ j (h : j < l.length), l[j] ≠ g) → find g l i = none := by
  intro l
  induction l with
  | nil => intro i _; simp [find]
  | cons a t ih =>
    intro i h
    have ha : ¬ a = g := h 0 (by simp)
    unfold find
    rw [if_neg (by first | exact ha | exact fun e => ha e.symm)]
    exact ih (fun j hj => by have := h (j + 1) (by simpa using hj); simpa only [List.getElem_cons_succ] using this)

/-- The reference's store at block pb; F: its blocks. -/
def RSt (w : World) (pb : Nat) (F : List Nat) (l : List Gt) (bud : Int) : Prop :=
  ∃ a c G, Blk w pb 33 #[.slice a l.length c, .int .i64 bud] ∧ Sl w 61 3 Gt.cs (.slice a l.length c) l G ∧ pb ∉ G ∧ F = pb :: G
theorem RSt.lt {w : World} {pb : Nat} {F : List Nat} {l : List Gt} {bud : Int} (h : RSt w pb F l bud) : ∀ x ∈ F, x < w.heap.size := by
  obtain ⟨a, c, G, hb, sl, _, rfl⟩ := h
  intro x hx
  simp at hx
  rcases hx with rfl | hx
  · exact hb.lt
  · exact sl.lt x hx
theorem RSt.frame {w w' : World} {pb : Nat} {F S : List Nat} {l : List Gt} {bud : Int} (h : RSt w pb F l bud) (f : Frame S w w') (hS : ∀ x ∈ F, x ∉ S) : RSt w' pb F l bud := by
  obtain ⟨a, c, G, hb, sl, n, rfl⟩ := h
  exact ⟨a, c, G, hb.frame f (hS _ (by simp)), sl.frame f (fun x hx => hS x (by simp [hx])), n, rfl⟩
theorem RSt.frame0 {w w' : World} {pb : Nat} {F : List Nat} {l : List Gt} {bud : Int} (h : RSt w pb F l bud) (f : Frame [] w w') : RSt w' pb F l bud := h.frame f (by simp)
def REnd (w : World) (pb : Nat) (F : List Nat) (l : List Gt) (bud : Int) (w' : World) : Prop := ∃ F', RSt w' pb F' l bud ∧ Frame F w w' ∧ Grow F F' w
theorem REnd.self {w w' : World} {pb : Nat} {F : List Nat} {l : List Gt} {bud : Int} (h : RSt w pb F l bud) (f : Frame [] w w') : REnd w pb F l bud w' := ⟨F, h.frame0 f, f.mono (by simp), fun _ hx => .inl hx⟩
theorem REnd.behind {w w1 w' : World} {pb : Nat} {F : List Nat} {l : List Gt} {bud : Int} (f : Frame [] w w1) (h : REnd w1 pb F l bud w') : REnd w pb F l bud w' := by
  obtain ⟨F', a, b, c⟩ := h
  exact ⟨F', a, (f.mono (by simp)).trans1 b, fun x hx => by rcases c x hx with h | h; exact .inl h; right; have := f.size; omega⟩

section
variable {w : World} {pb : Nat} {F : List Nat} {l : List Gt} {bud : Int}
theorem ris_any (h : RSt w pb F l bud) (k : Int) : Calls Try.prog 38 #[.pointer (some ⟨pb, 0, none⟩), .int .i64 k] w fun e w' => e = .returned (.bool (!notG l.length k)) ∧ w' = w := by
  obtain ⟨a, c, G, hb, sl, n, rfl⟩ := h
  have c0 := hb.at 0 rfl
  clear hb sl n
  by_cases hk : k < 0
  · have hr : Hid (notG l.length k = true) := by show notG l.length k = true; simp [notG, hk]
    have hk' : ¬ 0 ≤ k := by omega
    go_enter Try.func38, Try.ntmps38
    go_wp2_with fail
    go_ret
    exact ⟨by rw [hr.out]; rfl, rfl⟩
  · have hr : Hid (notG l.length k = decide ((l.length : Int) ≤ k)) := by show notG l.length k = _; simp [notG, hk]
    have hk' : 0 ≤ k := by omega
    go_enter Try.func38, Try.ntmps38
    go_wp2_with fail
    go_ret
    refine ⟨?_, rfl⟩
    rw [hr.out]
    by_cases h9 : (l.length : Int) ≤ k
    · simp [h9]; try omega
    · simp [h9]; try omega

set_option maxHeartbeats 2000000 in
set_option maxRecDepth 100000 in
theorem rgate_any (h : RSt w pb F l bud) (x y z : Int) (hlen : l.length ≤ 1000000) :
    Calls Try.prog 36 #[.pointer (some ⟨pb, 0, none⟩), .agg #[.int .i64 x, .int .i64 y, .int .i64 z]] w fun e w' =>
      e = .returned (.tuple #[.int .i64 (put ⟨x, y, z⟩ l (bud - l.length)).1.1, .int .i64 (put ⟨x, y, z⟩ l (bud - l.length)).1.2]) ∧ REnd w pb F (put ⟨x, y, z⟩ l (bud - l.length)).2.1 bud w' := by
  have H := Lib.hid h
  obtain ⟨a, c, G, hb, sl, n, rfl⟩ := h
  have A := Lib.hid (And.intro hb (And.intro sl n))
  clear hb sl n
  generalize hput : put ⟨x, y, z⟩ l (bud - l.length) = res
  have HPUT := Lib.hid hput
  clear hput
  go_enter Try.func36, Try.ntmps36
  go_wp2_with fail
  have fr : Frame [] w (w.alloc (.cells #[.int .i64 x, .int .i64 y, .int .i64 z] 61)) := Frame.alloc _ _ _
  have bg := Blk.new w 61 #[.int .i64 x, .int .i64 y, .int .i64 z]
  generalize w.alloc (.cells #[.int .i64 x, .int .i64 y, .int .i64 z] 61) = wa at *
  have BG := Lib.hid bg
  have FR := Lib.hid fr
  clear bg fr
  go_loopw [6] (fun i wr => ∃ k : Nat, k ≤ l.length ∧ i = .int .i64 k ∧ Hid (Frame [] wa wr) ∧ Hid (∀ j (h : j < l.length), j < k → l[j] ≠ ⟨x, y, z⟩)) (fun i _ => l.length - (intOf i).toNat)
  case atStart => exact ⟨0, Nat.zero_le _, rfl, Frame.refl _ _, fun j _ h => absurd h (Nat.not_lt_zero _)⟩
  case round =>
    obtain ⟨k, hk, rfl, hf, hq⟩ := hrel
    have hw := FR.out.trans1 hf.out
    have c0 := (A.out.1.frame hw (by simp)).at 0 rfl
    have c1 := (A.out.1.frame hw (by simp)).at 1 rfl
    have b0 := (BG.out.frame hf.out (by simp)).at 0 rfl
    have b1 := (BG.out.frame hf.out (by simp)).at 1 rfl
    have b2 := (BG.out.frame hf.out (by simp)).at 2 rfl
    by_cases hlt : k < l.length
    · obtain ⟨b9, c9, e9, _, _, hc⟩ := (A.out.2.1.frame0 hw).cell gt_len (show l[k]? = some l[k] by simp [hlt])
      injection e9 with e91 _ e93
      subst e91 e93
      have d0 := hc 0 _ rfl
      have d1 := hc 1 _ rfl
      have d2 := hc 2 _ rfl
      simp only [Nat.add_zero] at d0
      generalize hg9 : l[k] = g9 at *
      have G9 := Lib.hid hg9
      have HW := Lib.hid hw
      clear hc hg9 hw
      by_cases heq : g9 = ⟨x, y, z⟩
      · have q : ∀ n, (binOp .eql 61 (.agg #[.int .i64 g9.k, .int .i64 g9.a, .int .i64 g9.b]) (.agg #[.int .i64 x, .int .i64 y, .int .i64 z])).run Try.prog (wr.drewN n) = .ok (.bool true) (wr.drewN n) := fun n => by
          have := run_rgate_eql g9 ⟨x, y, z⟩ (wr.drewN n)
          rw [decide_eq_true heq] at this
          exact this
        have HE := Lib.hid heq
        clear heq
        go_wp2_with fail
        refine wp_region_quiet_lit (by kernel_rfl) (by kernel_rfl) ?_
        iterate 8 (go_big_quiet_step (fail))
        go_big_quiet_want
        refine quiet_bin .eql 61 61 (.tmp 22) (.tmp 23) (.agg #[.int .i64 g9.k, .int .i64 g9.a, .int .i64 g9.b]) (.agg #[.int .i64 x, .int .i64 y, .int .i64 z]) (.bool true) rfl rfl rfl (fun w => eqGuard_rgate _ _ _ _ w) ?_ ?_
        · rintro _ ⟨n, rfl⟩; exact q n
        go_big_quiet_on
        refine wpQuiet_nil ?_
        intro _ hw'
        obtain ⟨nq, hw'⟩ := hw'
        subst hw'
        go_wp2_with fail
        go_ret2
        have hp : put ⟨x, y, z⟩ l (bud - l.length) = (((k : Int), 0), l, bud - l.length) := by
          unfold put
          rw [find_at (i := 0) hlt (by rw [G9.out, HE.out]) hq.out]
          simp
        rw [HPUT.out] at hp
        subst hp
        exact ⟨rfl, REnd.self H.out (HW.out.trans1 (Frame.drewN _ _ _))⟩
      · have q : ∀ n, (binOp .eql 61 (.agg #[.int .i64 g9.k, .int .i64 g9.a, .int .i64 g9.b]) (.agg #[.int .i64 x, .int .i64 y, .int .i64 z])).run Try.prog (wr.drewN n) = .ok (.bool false) (wr.drewN n) := fun n => by
          have := run_rgate_eql g9 ⟨x, y, z⟩ (wr.drewN n)
          rw [decide_eq_false heq] at this
          exact this
        have HE := Lib.hid heq
        clear heq
        go_wp2_with fail
        refine wp_region_quiet_lit (by kernel_rfl) (by kernel_rfl) ?_
        iterate 8 (go_big_quiet_step (fail))
        go_big_quiet_want
        refine quiet_bin .eql 61 61 (.tmp 22) (.tmp 23) (.agg #[.int .i64 g9.k, .int .i64 g9.a, .int .i64 g9.b]) (.agg #[.int .i64 x, .int .i64 y, .int .i64 z]) (.bool false) rfl rfl rfl (fun w => eqGuard_rgate _ _ _ _ w) ?_ ?_
        · rintro _ ⟨n, rfl⟩; exact q n
        go_big_quiet_on
        refine wpQuiet_nil ?_
        intro _ hw'
        obtain ⟨nq, hw'⟩ := hw'
        subst hw'
        go_wp2_with fail
        go_roundw
        case rel => exact ⟨k + 1, by omega, by go_num, hf.out.trans1 (Frame.drewN _ _ _), fun j h hj => by
          rcases Nat.lt_or_ge j k with h9 | h9
          · exact hq.out j h h9
          · obtain rfl : j = k := by omega
            rw [G9.out]; exact HE.out⟩
        case measure => simp [intOf]; omega
    · obtain rfl : k = l.length := by omega
      have hno : find ⟨x, y, z⟩ l 0 = none := find_no (fun j h => hq.out j h h)
      have HW := Lib.hid hw
      have HF := Lib.hid hf.out
      by_cases hroom : (l.length : Int) ≥ bud
      · have hp : put ⟨x, y, z⟩ l (bud - l.length) = ((0, 10), l, bud - l.length) := by
          unfold put
          rw [hno]
          simp only
          rw [if_neg (by omega)]
        rw [HPUT.out] at hp
        subst hp
        have hd : decide (bud ≤ (l.length : Int)) = true := by simp; omega
        clear hno hw hf
        go_wp2_with fail
        go_quiet (fail)
        go_wp2_with fail
        go_ret2
        exact ⟨rfl, REnd.self H.out (HW.out.trans1 (by (repeat first | assumption | exact Frame.refl _ _ | refine Frame.trans1 ?_ (Frame.alloc _ _ _) | refine Frame.trans1 ?_ (Frame.drew _ _) | refine Frame.trans1 ?_ (Frame.drewN _ _ _))))⟩
      · have hp : put ⟨x, y, z⟩ l (bud - l.length) = (((l.length : Int), 0), l ++ [⟨x, y, z⟩], bud - l.length - 1) := by
          unfold put
          rw [hno]
          simp only
          rw [if_pos (by omega)]
        rw [HPUT.out] at hp
        subst hp
        have hd : decide (bud ≤ (l.length : Int)) = false := by simp; omega
        clear hno hw hf
        go_wp2_with fail
        refine wp_region_quiet_lit (by kernel_rfl) (by kernel_rfl) ?_
        iterate 10 (go_big_quiet_step (fail))
        refine wpQuiet_nil ?_
        intro _ hw'
        obtain ⟨nq, hw'⟩ := hw'
        subst hw'
        go_upto_region 8 with fail
        have fy : Frame [] w (wr.drewN nq) := HW.out.trans1 (by (repeat first | assumption | exact Frame.refl _ _ | refine Frame.trans1 ?_ (Frame.alloc _ _ _) | refine Frame.trans1 ?_ (Frame.drew _ _) | refine Frame.trans1 ?_ (Frame.drewN _ _ _)))
        have fy2 : Frame [] wa (wr.drewN nq) := HF.out.trans1 (by (repeat first | assumption | exact Frame.refl _ _ | refine Frame.trans1 ?_ (Frame.alloc _ _ _) | refine Frame.trans1 ?_ (Frame.drew _ _) | refine Frame.trans1 ?_ (Frame.drewN _ _ _)))
        generalize wr.drewN nq = wy at *
        have OB := Lib.hid (A.out.1.frame fy (by simp))
        have GB := Lib.hid (BG.out.frame fy2 (by simp))
        have SL := Lib.hid (A.out.2.1.frame0 fy)
        have FY := Lib.hid fy
        clear c0 c1 b0 b1 b2 fy fy2
        have c0 := OB.out.at 0 rfl
        have b0 := GB.out.at 0 rfl
        have b1 := GB.out.at 1 rfl
        have b2 := GB.out.at 2 rfl
        have hpbG : pb ∉ G := A.out.2.2
        have c0a : ∀ o, (wy.drew.alloc o).cell? ⟨pb, 0, none⟩ = some (.slice a l.length c) := fun o => (OB.out.drew.alloc o).at 0 rfl
        have c0b : ∀ o, (wy.alloc o).cell? ⟨pb, 0, none⟩ = some (.slice a l.length c) := fun o => (OB.out.alloc o).at 0 rfl
        go_cut [42, 43] (fun u v wx => ∃ b' cap', Hid (Blk wx pb 33 #[.slice (some ⟨b', 0, none⟩) (l.length + 1) cap', .int .i64 bud] ∧ Sl wx 61 3 Gt.cs (.slice (some ⟨b', 0, none⟩) (l.length + 1) cap') (l ++ [⟨x, y, z⟩]) [b'] ∧ Frame (pb :: G) wy wx ∧ pb ≠ b' ∧ (b' ∈ G ∨ wy.heap.size ≤ b')))
        case first =>
          go_region_law (refine step_append_sl _ (by rfl) (.tmp 40) (.tmp 42) 31 (by rfl) 61 3 24 _ Gt.cs Try.underlying31 infoRGate rfl (by omega) (.slice a l.length c) l l.length rfl G (by rfl) (SL.out.frame0 (by (repeat first | assumption | exact Frame.refl _ _ | refine Frame.trans1 ?_ (Frame.alloc _ _ _) | refine Frame.trans1 ?_ (Frame.drew _ _) | refine Frame.trans1 ?_ (Frame.drewN _ _ _)))) _ 1 1 [⟨x, y, z⟩] _ (by rfl) (by first | exact Blk.new _ _ _ | exact (Blk.new _ _ _).drew) rfl rfl gt_len gt_one (by omega) (by omega) (by omega) ?_; intro b' cap' w6 sl6 f6 hb6; have f46 : Frame G wy w6 := (show Frame G wy _ from by (repeat first | assumption | exact Frame.refl _ _ | refine Frame.trans1 ?_ (Frame.alloc _ _ _) | refine Frame.trans1 ?_ (Frame.drew _ _) | refine Frame.trans1 ?_ (Frame.drewN _ _ _))).trans1 f6; have ob6 := OB.out.frame f46 hpbG; have z0 := ob6.frozen 0; have q0 := ob6.at 0 rfl)
          all_goals
            go_wp2_with fail
            go_meet
            case rel =>
              have hb' : b' ∈ G ∨ wy.heap.size ≤ b' := by
                rcases hb6 with h | h
                · exact .inl h
                · right; simp at h; omega
              have hpb : pb ≠ b' := by
                rcases hb' with h | h
                · exact fun e => hpbG (e ▸ h)
                · have := OB.out.lt; omega
              refine ⟨b', cap', Lib.hid ⟨?_, ?_, ?_, hpb, hb'⟩⟩
              · simpa using ob6.set 0 (.slice (some ⟨b', 0, none⟩) (l.length + 1) cap')
              · exact sl6.frame (S := [pb]) (Frame.setCell _ _ _ (by simp)) (by simp; exact fun e => hpb e.symm)
              · exact (f46.mono (fun x hx => .inl (by simp [hx]))).trans1 (Frame.setCell _ _ _ (by simp))
        case rest =>
          obtain ⟨b', cap', hc⟩ := hcut
          have e0 := hc.out.1.at 0 rfl
          clear c0 b0 b1 b2 c0a c0b
          go_wp2_with fail
          go_ret2
          refine ⟨by simp, pb :: [b'], ⟨some ⟨b', 0, none⟩, cap', [b'], by simpa using hc.out.1, by simpa using hc.out.2.1, by simpa using hc.out.2.2.2.1, rfl⟩, (FY.out.mono (by simp)).trans1 hc.out.2.2.1, fun x hx => ?_⟩
          have hz := FY.out.size
          simp at hx
          rcases hx with rfl | rfl
          · exact .inl (by simp)
          · rcases hc.out.2.2.2.2 with h | h
            · exact .inl (by simp [h])
            · right; omega
end
end Go.Proofs.Ytbnhhmejlglbcaa

