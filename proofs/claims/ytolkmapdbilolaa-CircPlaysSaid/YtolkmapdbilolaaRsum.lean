/- The reference store's Sum. -/
import Derived.Test.YtolkmapdbilolaaRops
namespace Go.Proofs.Ytolkmapdbilolaa
open Go.RowKit
set_option linter.unusedSimpArgs false
set_option linter.unusedVariables false
theorem put_left (g : Gt) (l : List Gt) (bud : Int) : (put g l (bud - l.length)).2.2 = bud - (put g l (bud - l.length)).2.1.length ∧ l.length ≤ (put g l (bud - l.length)).2.1.length ∧ (put g l (bud - l.length)).2.1.length ≤ l.length + 1 := by
  unfold put
  split
  · exact ⟨rfl, Nat.le_refl _, Nat.le_succ _⟩
  · split
    · refine ⟨?_, ?_, ?_⟩ <;> simp <;> omega
    · exact ⟨rfl, Nat.le_refl _, Nat.le_succ _⟩
theorem mkVar_left (t : Int) (l : List Gt) (bud : Int) : (mkVar t l (bud - l.length)).2.2 = bud - (mkVar t l (bud - l.length)).2.1.length ∧ l.length ≤ (mkVar t l (bud - l.length)).2.1.length ∧ (mkVar t l (bud - l.length)).2.1.length ≤ l.length + 1 := by
  unfold mkVar
  split
  · exact ⟨rfl, Nat.le_refl _, Nat.le_succ _⟩
  · exact put_left _ _ _
theorem mkPlus_left (a b : Int) (l : List Gt) (bud : Int) : (mkPlus a b l (bud - l.length)).2.2 = bud - (mkPlus a b l (bud - l.length)).2.1.length ∧ l.length ≤ (mkPlus a b l (bud - l.length)).2.1.length ∧ (mkPlus a b l (bud - l.length)).2.1.length ≤ l.length + 1 := by
  unfold mkPlus
  repeat' split
  all_goals first | exact ⟨rfl, Nat.le_refl _, Nat.le_succ _⟩ | exact put_left _ _ _
theorem mkTimes_left (a b : Int) (l : List Gt) (bud : Int) : (mkTimes a b l (bud - l.length)).2.2 = bud - (mkTimes a b l (bud - l.length)).2.1.length ∧ l.length ≤ (mkTimes a b l (bud - l.length)).2.1.length ∧ (mkTimes a b l (bud - l.length)).2.1.length ≤ l.length + 1 := by
  unfold mkTimes
  repeat' split
  all_goals first | exact ⟨rfl, Nat.le_refl _, Nat.le_succ _⟩ | exact put_left _ _ _
theorem mkStar_left (a : Int) (l : List Gt) (bud : Int) : (mkStar a l (bud - l.length)).2.2 = bud - (mkStar a l (bud - l.length)).2.1.length ∧ l.length ≤ (mkStar a l (bud - l.length)).2.1.length ∧ (mkStar a l (bud - l.length)).2.1.length ≤ l.length + 1 := by
  unfold mkStar
  repeat' split
  all_goals first | exact ⟨rfl, Nat.le_refl _, Nat.le_succ _⟩ | exact put_left _ _ _
theorem mkSum_left : ∀ (xs : List Int) (acc : Int) (l : List Gt) (bud : Int), (mkSum xs acc l (bud - l.length)).2.2 = bud - (mkSum xs acc l (bud - l.length)).2.1.length ∧ l.length ≤ (mkSum xs acc l (bud - l.length)).2.1.length ∧ (mkSum xs acc l (bud - l.length)).2.1.length ≤ l.length + xs.length := by
  intro xs
  induction xs with
  | nil => intro acc l bud; exact ⟨rfl, Nat.le_refl _, Nat.le_refl _⟩
  | cons x t ih =>
    intro acc l bud
    have hp := mkPlus_left acc x l bud
    unfold mkSum
    generalize mkPlus acc x l (bud - l.length) = p at *
    obtain ⟨p1, p2, p3⟩ := p
    simp only at *
    obtain ⟨h1, h2, h3⟩ := hp
    split
    · rw [h1]
      have := ih p1.1 p2 bud
      refine ⟨this.1, by omega, by simp only [List.length_cons]; omega⟩
    · exact ⟨h1, h2, by simp only [List.length_cons]; omega⟩

theorem REnd.comp {w w1 w' : World} {pb : Nat} {F F1 : List Nat} {l : List Gt} {bud : Int} (b : Frame F w w1) (c : Grow F F1 w) (h : REnd w1 pb F1 l bud w') : REnd w pb F l bud w' := by
  obtain ⟨F2, a', b', c'⟩ := h
  exact ⟨F2, a', b.trans b' c, fun x hx => by
    rcases c' x hx with h | h
    · exact c x h
    · right; have := b.size; omega⟩

theorem rsum_any' (pb : Nat) (F : List Nat) (l : List Gt) (bud : Int) (a : Option Addr) (cap : Nat) (xs : List Int) (w : World) (h : RSt w pb F l bud)
    (hx : RdI w a xs) (hap : xs ≠ [] → RdI.Apart a F) (hl : l.length + xs.length ≤ 1000000) :
    Calls Try.prog 107 #[.pointer (some ⟨pb, 0, none⟩), .slice a xs.length cap] w fun e w' =>
      e = .returned (.tuple #[.int .i64 (mkSum xs 0 l (bud - l.length)).1.1, .int .i64 (mkSum xs 0 l (bud - l.length)).1.2]) ∧ REnd w pb F (mkSum xs 0 l (bud - l.length)).2.1 bud w' := by
  have H := Lib.hid h
  have HX := Lib.hid hx
  have HA := Lib.hid hap
  clear h hx hap
  generalize hr : mkSum xs 0 l (bud - l.length) = r
  have HR := Lib.hid hr
  clear hr
  go_enter Try.func107, Try.ntmps107
  go_wp2_with fail
  go_loopw [6, 7] (fun acc i wr => ∃ (k : Nat) (x : Int) (l' : List Gt), k ≤ xs.length ∧ i = .int .i64 k ∧ acc = .int .i64 x ∧ l'.length ≤ l.length + k ∧ Hid (REnd w pb F l' bud wr ∧ mkSum (xs.drop k) x l' (bud - l'.length) = r)) (fun _ i _ => xs.length - (intOf i).toNat)
  case atStart => exact ⟨0, 0, l, Nat.zero_le _, rfl, rfl, by omega, REnd.self H.out (Frame.refl _ _), HR.out⟩
  case round =>
    obtain ⟨k, x, l', hk, rfl, rfl, hll, hq⟩ := hrel
    by_cases hlt : k < xs.length
    · obtain ⟨b, off, rfl, hc⟩ : ∃ b off, a = some ⟨b, off, none⟩ ∧ wr.cell? ⟨b, off + k, none⟩ = some (.int .i64 xs[k]) := by
        obtain ⟨F', _, q2, _⟩ := hq.out.1
        exact (HX.out.frameS q2 (HA.out (by intro e; rw [e] at hlt; simp at hlt))).at hlt
      obtain ⟨F', q1, q2, q3⟩ := hq.out.1
      have hm : Hid (mkSum (xs.drop k) x l' (bud - l'.length) = r) := hq.out.2
      rw [List.drop_eq_getElem_cons hlt, mkSum] at hm
      have hp := rplus_any q1 x xs[k] (by omega)
      have hln := mkPlus_left x xs[k] l' bud
      generalize mkPlus x xs[k] l' (bud - l'.length) = p at *
      have HP := Lib.hid hp
      have HL := Lib.hid hln
      have Q := Lib.hid (And.intro q2 q3)
      clear hp hln q1 q2 q3
      go_wp2_with fail
      refine HP.out.mono ?_
      rintro e w2 ⟨rfl, f2⟩
      have F2 := Lib.hid (REnd.comp Q.out.1 Q.out.2 f2)
      clear f2
      by_cases he : p.1.2 = 0
      · have he' : (p.1.2 != 0) = false := by simp [he]
        rw [if_pos he, HL.out.1] at hm
        clear he
        go_wp2_with fail
        go_roundw
        case rel => exact ⟨k + 1, _, _, by omega, by go_num, rfl, by have := HL.out.2.2; omega, F2.out, hm⟩
        case measure => simp [intOf]; omega
      · have he' : (p.1.2 != 0) = true := by simp [he]
        rw [if_neg he] at hm
        subst hm
        clear he
        go_wp2_with fail
        go_ret2
        exact ⟨rfl, F2.out⟩
    · have hk' : k = xs.length := by omega
      subst hk'
      have hm := hq.out.2
      rw [List.drop_length, mkSum] at hm
      subst hm
      have hq1 := Lib.hid hq.out.1
      go_wp2_with fail
      go_ret2
      exact ⟨rfl, hq1.out⟩
theorem rsum_any (pb : Nat) (F : List Nat) (l : List Gt) (bud : Int) (a : Option Addr) (cap : Nat) (xs : List Int) (w : World) (h : RSt w pb F l bud)
    (hx : RdI w a xs) (hap : RdI.Apart a F) (hl : l.length + xs.length ≤ 1000000) :
    Calls Try.prog 107 #[.pointer (some ⟨pb, 0, none⟩), .slice a xs.length cap] w fun e w' =>
      e = .returned (.tuple #[.int .i64 (mkSum xs 0 l (bud - l.length)).1.1, .int .i64 (mkSum xs 0 l (bud - l.length)).1.2]) ∧ REnd w pb F (mkSum xs 0 l (bud - l.length)).2.1 bud w' :=
  rsum_any' pb F l bud a cap xs w h hx (fun _ => hap) hl
end Go.Proofs.Ytolkmapdbilolaa
