/- One step, done to both stores. -/
import Derived.Test.YtolkmapdbilolaaBoth
import Derived.Test.YtolkmapdbilolaaSmall13
import Derived.Test.YtolkmapdbilolaaQb
namespace Go.Proofs.Ytolkmapdbilolaa
open Go.RowKit
set_option linter.unusedSimpArgs false
set_option linter.unusedVariables false

/-- A step's answer and gates. -/
def opS (s : Stp) (l : List Gt) (left : Int) : (Int × Int) × List Gt × Int :=
  if s.kind = 1 then mkVar s.a l left else if s.kind = 2 then mkPlus s.a s.b l left else if s.kind = 3 then mkTimes s.a s.b l left
  else if s.kind = 4 then mkStar s.a l left else if s.kind = 5 then mkSum s.l 0 l left else ((0, 0), l, left)

set_option maxHeartbeats 4000000 in
set_option maxRecDepth 100000 in
theorem does_any {w0 w : World} {pb rb : Nat} {l : List Gt} {bud : Int} (s : Stp) (h : BSg [] (fun _ => True) w0 pb rb l (bud - l.length) l bud w) (h0 : 0 < l.length) (hl : l.length + s.l.length ≤ 1000000) (hx : RdI w0 s.la s.l) (hb : s.l ≠ [] → ∀ b off, s.la = some ⟨b, off, none⟩ → b < w0.heap.size) :
    Calls Try.prog 55 #[.pointer (some ⟨pb, 0, none⟩), .pointer (some ⟨rb, 0, none⟩), .agg #[.int .i64 s.kind, .int .i64 s.a, .int .i64 s.b, .slice s.la s.l.length s.lcap]] w fun e w' => e = .returned (.bool true) ∧ BSg [] (fun _ => True) w0 pb rb (opS s l (bud - l.length)).2.1 (opS s l (bud - l.length)).2.2 (opS s l (bud - l.length)).2.1 bud w' := by
  obtain ⟨kind, sa, sb, la, lcap, sl⟩ := s
  simp only at hl hx hb ⊢
  generalize hbl : bud - (l.length : Int) = left at *
  have H := Lib.hid h
  clear h
  by_cases k1 : kind = 1
  · have e : opS ⟨kind, sa, sb, la, lcap, sl⟩ l left = mkVar sa l left := by simp [opS, k1]
    rw [e]
    have hv : ∀ (KB : List Nat) (Kp : World → Prop) (hK : Keep KB Kp) w1, BSg KB Kp w0 pb rb l left l bud w1 → Calls Try.prog 17 #[.pointer (some ⟨pb, 0, none⟩), .int .i64 sa] w1 fun e w' => e = .returned (.tuple #[.int .i64 (mkVar sa l left).1.1, .int .i64 (mkVar sa l left).1.2]) ∧ BSg KB Kp w0 pb rb (mkVar sa l left).2.1 (mkVar sa l left).2.2 l bud w' := fun KB Kp hK w1 h => BSg.var hK h sa h0
    have hr : ∀ (KB : List Nat) (Kp : World → Prop) (hK : Keep KB Kp) w1, BSg KB Kp w0 pb rb (mkVar sa l left).2.1 (mkVar sa l left).2.2 l bud w1 → Calls Try.prog 103 #[.pointer (some ⟨rb, 0, none⟩), .int .i64 sa] w1 fun e w' => e = .returned (.tuple #[.int .i64 (mkVar sa l left).1.1, .int .i64 (mkVar sa l left).1.2]) ∧ BSg KB Kp w0 pb rb (mkVar sa l left).2.1 (mkVar sa l left).2.2 (mkVar sa l left).2.1 bud w' := fun KB Kp hK w1 h => by
      have := BSg.rvar hK h sa (by omega)
      rw [hbl] at this
      exact this
    generalize mkVar sa l left = q at *
    obtain ⟨⟨q1, q2⟩, ql, qf⟩ := q
    have HV := Lib.hid hv
    have HR := Lib.hid hr
    clear hv hr e hx hb hbl
    subst k1
    go_enter Try.func55, Try.ntmps55
    go_wp2_with fail
    refine (HV.out _ _ (keep_blk _ _ _) _ H.out.more).mono ?_
    rintro e w1 ⟨rfl, b1⟩
    have c0 := b1.kp.at 0 rfl
    have c1 := b1.kp.at 1 rfl
    have c2 := b1.kp.at 2 rfl
    have c3 := b1.kp.at 3 rfl
    have B1 := Lib.hid b1
    clear b1 HV
    go_wp2_with fail
    refine (HR.out _ _ (keep_blk _ _ _) _ B1.out).mono ?_
    rintro e w2 ⟨rfl, b2⟩
    have B2 := Lib.hid b2.less
    clear b2 HR B1 c0 c1 c2 c3
    go_wp2_with fail
    go_ret
    exact ⟨by simp, B2.out⟩
  by_cases k2 : kind = 2
  · have e : opS ⟨kind, sa, sb, la, lcap, sl⟩ l left = mkPlus sa sb l left := by simp [opS, k2]
    rw [e]
    have hv : ∀ (KB : List Nat) (Kp : World → Prop) (hK : Keep KB Kp) w1, BSg KB Kp w0 pb rb l left l bud w1 → Calls Try.prog 21 #[.pointer (some ⟨pb, 0, none⟩), .int .i64 sa, .int .i64 sb] w1 fun e w' => e = .returned (.tuple #[.int .i64 (mkPlus sa sb l left).1.1, .int .i64 (mkPlus sa sb l left).1.2]) ∧ BSg KB Kp w0 pb rb (mkPlus sa sb l left).2.1 (mkPlus sa sb l left).2.2 l bud w' := fun KB Kp hK w1 h => BSg.plus hK h sa sb h0
    have hr : ∀ (KB : List Nat) (Kp : World → Prop) (hK : Keep KB Kp) w1, BSg KB Kp w0 pb rb (mkPlus sa sb l left).2.1 (mkPlus sa sb l left).2.2 l bud w1 → Calls Try.prog 104 #[.pointer (some ⟨rb, 0, none⟩), .int .i64 sa, .int .i64 sb] w1 fun e w' => e = .returned (.tuple #[.int .i64 (mkPlus sa sb l left).1.1, .int .i64 (mkPlus sa sb l left).1.2]) ∧ BSg KB Kp w0 pb rb (mkPlus sa sb l left).2.1 (mkPlus sa sb l left).2.2 (mkPlus sa sb l left).2.1 bud w' := fun KB Kp hK w1 h => by
      have := BSg.rplus hK h sa sb (by omega)
      rw [hbl] at this
      exact this
    generalize mkPlus sa sb l left = q at *
    obtain ⟨⟨q1, q2⟩, ql, qf⟩ := q
    have HV := Lib.hid hv
    have HR := Lib.hid hr
    clear hv hr e hx hb hbl
    subst k2
    go_enter Try.func55, Try.ntmps55
    go_wp2_with fail
    refine (HV.out _ _ (keep_blk _ _ _) _ H.out.more).mono ?_
    rintro e w1 ⟨rfl, b1⟩
    have c0 := b1.kp.at 0 rfl
    have c1 := b1.kp.at 1 rfl
    have c2 := b1.kp.at 2 rfl
    have c3 := b1.kp.at 3 rfl
    have B1 := Lib.hid b1
    clear b1 HV
    go_wp2_with fail
    refine (HR.out _ _ (keep_blk _ _ _) _ B1.out).mono ?_
    rintro e w2 ⟨rfl, b2⟩
    have B2 := Lib.hid b2.less
    clear b2 HR B1 c0 c1 c2 c3
    go_wp2_with fail
    go_ret
    exact ⟨by simp, B2.out⟩
  by_cases k3 : kind = 3
  · have e : opS ⟨kind, sa, sb, la, lcap, sl⟩ l left = mkTimes sa sb l left := by simp [opS, k3]
    rw [e]
    have hv : ∀ (KB : List Nat) (Kp : World → Prop) (hK : Keep KB Kp) w1, BSg KB Kp w0 pb rb l left l bud w1 → Calls Try.prog 22 #[.pointer (some ⟨pb, 0, none⟩), .int .i64 sa, .int .i64 sb] w1 fun e w' => e = .returned (.tuple #[.int .i64 (mkTimes sa sb l left).1.1, .int .i64 (mkTimes sa sb l left).1.2]) ∧ BSg KB Kp w0 pb rb (mkTimes sa sb l left).2.1 (mkTimes sa sb l left).2.2 l bud w' := fun KB Kp hK w1 h => BSg.times hK h sa sb h0
    have hr : ∀ (KB : List Nat) (Kp : World → Prop) (hK : Keep KB Kp) w1, BSg KB Kp w0 pb rb (mkTimes sa sb l left).2.1 (mkTimes sa sb l left).2.2 l bud w1 → Calls Try.prog 105 #[.pointer (some ⟨rb, 0, none⟩), .int .i64 sa, .int .i64 sb] w1 fun e w' => e = .returned (.tuple #[.int .i64 (mkTimes sa sb l left).1.1, .int .i64 (mkTimes sa sb l left).1.2]) ∧ BSg KB Kp w0 pb rb (mkTimes sa sb l left).2.1 (mkTimes sa sb l left).2.2 (mkTimes sa sb l left).2.1 bud w' := fun KB Kp hK w1 h => by
      have := BSg.rtimes hK h sa sb (by omega)
      rw [hbl] at this
      exact this
    generalize mkTimes sa sb l left = q at *
    obtain ⟨⟨q1, q2⟩, ql, qf⟩ := q
    have HV := Lib.hid hv
    have HR := Lib.hid hr
    clear hv hr e hx hb hbl
    subst k3
    go_enter Try.func55, Try.ntmps55
    go_wp2_with fail
    refine (HV.out _ _ (keep_blk _ _ _) _ H.out.more).mono ?_
    rintro e w1 ⟨rfl, b1⟩
    have c0 := b1.kp.at 0 rfl
    have c1 := b1.kp.at 1 rfl
    have c2 := b1.kp.at 2 rfl
    have c3 := b1.kp.at 3 rfl
    have B1 := Lib.hid b1
    clear b1 HV
    go_wp2_with fail
    refine (HR.out _ _ (keep_blk _ _ _) _ B1.out).mono ?_
    rintro e w2 ⟨rfl, b2⟩
    have B2 := Lib.hid b2.less
    clear b2 HR B1 c0 c1 c2 c3
    go_wp2_with fail
    go_ret
    exact ⟨by simp, B2.out⟩
  by_cases k4 : kind = 4
  · have e : opS ⟨kind, sa, sb, la, lcap, sl⟩ l left = mkStar sa l left := by simp [opS, k4]
    rw [e]
    have hv : ∀ (KB : List Nat) (Kp : World → Prop) (hK : Keep KB Kp) w1, BSg KB Kp w0 pb rb l left l bud w1 → Calls Try.prog 23 #[.pointer (some ⟨pb, 0, none⟩), .int .i64 sa] w1 fun e w' => e = .returned (.tuple #[.int .i64 (mkStar sa l left).1.1, .int .i64 (mkStar sa l left).1.2]) ∧ BSg KB Kp w0 pb rb (mkStar sa l left).2.1 (mkStar sa l left).2.2 l bud w' := fun KB Kp hK w1 h => BSg.star hK h sa h0
    have hr : ∀ (KB : List Nat) (Kp : World → Prop) (hK : Keep KB Kp) w1, BSg KB Kp w0 pb rb (mkStar sa l left).2.1 (mkStar sa l left).2.2 l bud w1 → Calls Try.prog 106 #[.pointer (some ⟨rb, 0, none⟩), .int .i64 sa] w1 fun e w' => e = .returned (.tuple #[.int .i64 (mkStar sa l left).1.1, .int .i64 (mkStar sa l left).1.2]) ∧ BSg KB Kp w0 pb rb (mkStar sa l left).2.1 (mkStar sa l left).2.2 (mkStar sa l left).2.1 bud w' := fun KB Kp hK w1 h => by
      have := BSg.rstar hK h sa (by omega)
      rw [hbl] at this
      exact this
    generalize mkStar sa l left = q at *
    obtain ⟨⟨q1, q2⟩, ql, qf⟩ := q
    have HV := Lib.hid hv
    have HR := Lib.hid hr
    clear hv hr e hx hb hbl
    subst k4
    go_enter Try.func55, Try.ntmps55
    go_wp2_with fail
    refine (HV.out _ _ (keep_blk _ _ _) _ H.out.more).mono ?_
    rintro e w1 ⟨rfl, b1⟩
    have c0 := b1.kp.at 0 rfl
    have c1 := b1.kp.at 1 rfl
    have c2 := b1.kp.at 2 rfl
    have c3 := b1.kp.at 3 rfl
    have B1 := Lib.hid b1
    clear b1 HV
    go_wp2_with fail
    refine (HR.out _ _ (keep_blk _ _ _) _ B1.out).mono ?_
    rintro e w2 ⟨rfl, b2⟩
    have B2 := Lib.hid b2.less
    clear b2 HR B1 c0 c1 c2 c3
    go_wp2_with fail
    go_ret
    exact ⟨by simp, B2.out⟩
  by_cases k5 : kind = 5
  · have e : opS ⟨kind, sa, sb, la, lcap, sl⟩ l left = mkSum sl 0 l left := by simp [opS, k5]
    rw [e]
    have hv : ∀ (KB : List Nat) (Kp : World → Prop) (hK : Keep KB Kp) w1, BSg KB Kp w0 pb rb l left l bud w1 → Calls Try.prog 25 #[.pointer (some ⟨pb, 0, none⟩), .slice la sl.length lcap] w1 fun e w' => e = .returned (.tuple #[.int .i64 (mkSum sl 0 l left).1.1, .int .i64 (mkSum sl 0 l left).1.2]) ∧ BSg KB Kp w0 pb rb (mkSum sl 0 l left).2.1 (mkSum sl 0 l left).2.2 l bud w' := fun KB Kp hK w1 h => BSg.sum hK h la lcap sl hx hb (by omega) h0
    have hr : ∀ (KB : List Nat) (Kp : World → Prop) (hK : Keep KB Kp) w1, BSg KB Kp w0 pb rb (mkSum sl 0 l left).2.1 (mkSum sl 0 l left).2.2 l bud w1 → Calls Try.prog 107 #[.pointer (some ⟨rb, 0, none⟩), .slice la sl.length lcap] w1 fun e w' => e = .returned (.tuple #[.int .i64 (mkSum sl 0 l left).1.1, .int .i64 (mkSum sl 0 l left).1.2]) ∧ BSg KB Kp w0 pb rb (mkSum sl 0 l left).2.1 (mkSum sl 0 l left).2.2 (mkSum sl 0 l left).2.1 bud w' := fun KB Kp hK w1 h => by
      have := BSg.rsum hK h la lcap sl hx hb (by omega)
      rw [hbl] at this
      exact this
    generalize mkSum sl 0 l left = q at *
    obtain ⟨⟨q1, q2⟩, ql, qf⟩ := q
    have HV := Lib.hid hv
    have HR := Lib.hid hr
    clear hv hr e hx hb hbl
    subst k5
    go_enter Try.func55, Try.ntmps55
    go_wp2_with fail
    refine (HV.out _ _ (keep_blk _ _ _) _ H.out.more).mono ?_
    rintro e w1 ⟨rfl, b1⟩
    have c0 := b1.kp.at 0 rfl
    have c1 := b1.kp.at 1 rfl
    have c2 := b1.kp.at 2 rfl
    have c3 := b1.kp.at 3 rfl
    have B1 := Lib.hid b1
    clear b1 HV
    go_wp2_with fail
    refine (HR.out _ _ (keep_blk _ _ _) _ B1.out).mono ?_
    rintro e w2 ⟨rfl, b2⟩
    have B2 := Lib.hid b2.less
    clear b2 HR B1 c0 c1 c2 c3
    go_wp2_with fail
    go_ret
    exact ⟨by simp, B2.out⟩
  · have e : opS ⟨kind, sa, sb, la, lcap, sl⟩ l left = ((0, 0), l, left) := by simp [opS, k1, k2, k3, k4, k5]
    rw [e]
    have d1 : (kind == 1) = false := by simp [k1]
    have d2 : (kind == 2) = false := by simp [k2]
    have d3 : (kind == 3) = false := by simp [k3]
    have d4 : (kind == 4) = false := by simp [k4]
    have d5 : (kind == 5) = false := by simp [k5]
    clear e hx hb hbl k1 k2 k3 k4 k5
    go_enter Try.func55, Try.ntmps55
    go_wp2_with fail
    go_ret
    exact ⟨by simp, H.out.more.less⟩
end Go.Proofs.Ytolkmapdbilolaa
