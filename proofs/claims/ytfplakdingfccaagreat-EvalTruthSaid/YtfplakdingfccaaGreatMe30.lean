/- The reference's Tokens, walked. Reach and Tokens of what is no gate, both sides. The reference store's Sum. Both stores side by side. -/
import Derived.Test.YtfplakdingfccaaGreatMe26
import Derived.Test.YtfplakdingfccaaGreatMe28
import Derived.Test.YtfplakdingfccaaGreatMe29
import Derived.Test.YtfplakdingfccaaGreatMe15
namespace Go.Proofs.YtfplakdingfccaaGreat
open Go.RowKit
set_option linter.unusedSimpArgs false
set_option linter.unusedVariables false

end Go.Proofs.YtfplakdingfccaaGreat

namespace Go.Proofs.YtfplakdingfccaaGreat
open Go.RowKit
set_option linter.unusedSimpArgs false
set_option linter.unusedVariables false

set_option maxHeartbeats 4000000 in
set_option maxRecDepth 100000 in
theorem reach_none (pb : Nat) (F : List Nat) (l : List Gt) (left : Int) (k : Int) (w : World) (h : St w pb F l left) (hk : notG l.length k = true) :
    Calls Tryz.prog 55 #[.pointer (some ⟨pb, 0, none⟩), .int .i64 k] w fun e w' => e = .returned (.slice none 0 0) ∧ Frame [] w w' := by
  have HA : Hid (areG l.length [k] = false) := by show areG l.length [k] = false; simp [areG, hk]
  have H := Lib.hid h
  clear h hk
  go_enter Tryz.func55, Tryz.ntmps55
  go_wp2_with fail
  have fr : Frame [] w (w.alloc (.cells #[.int .i64 k] 3)) := Frame.alloc _ _ _
  refine (is_any (some ⟨pb, 0, none⟩) l.length _ 1 [k] _ (RdI.one w k 3) (by simp) (H.out.frame0 fr).lens).mono ?_
  rw [HA.out]
  rintro e w1 ⟨rfl, f1⟩
  have F1 := Lib.hid (fr.trans1 f1)
  clear fr f1
  go_wp2_with fail
  go_ret
  exact ⟨rfl, F1.out⟩
set_option maxHeartbeats 4000000 in
set_option maxRecDepth 100000 in
theorem rreach_none (pb : Nat) (F : List Nat) (l : List Gt) (bud : Int) (k : Int) (w : World) (h : RSt w pb F l bud) (hk : notG l.length k = true) :
    Calls Tryz.prog 71 #[.pointer (some ⟨pb, 0, none⟩), .int .i64 k] w fun e w' => e = .returned (.slice none 0 0) ∧ Frame [] w w' := by
  have hri := ris_any h k
  rw [hk] at hri
  have RI := Lib.hid hri
  clear h hk hri
  go_enter Tryz.func71, Tryz.ntmps71
  go_wp2_with fail
  refine RI.out.mono ?_
  rintro e w ⟨rfl, rfl⟩
  go_wp2_with fail
  go_ret
  exact ⟨rfl, Frame.refl _ _⟩
set_option maxHeartbeats 4000000 in
set_option maxRecDepth 100000 in
theorem tokens_none (pb : Nat) (F : List Nat) (l : List Gt) (left : Int) (k : Int) (w : World) (h : St w pb F l left) (hk : notG l.length k = true) :
    Calls Tryz.prog 66 #[.pointer (some ⟨pb, 0, none⟩), .int .i64 k] w fun e w' => e = .returned (.slice none 0 0) ∧ Frame [] w w' := by
  have RE := Lib.hid (reach_none pb F l left k w h hk)
  clear h hk
  go_enter Tryz.func66, Tryz.ntmps66
  go_wp2_with fail
  refine RE.out.mono ?_
  rintro e w1 ⟨rfl, f1⟩
  have F1 := Lib.hid f1
  clear f1
  go_wp2_with fail
  go_loopw [4, 6, 11] (fun v k i wr => v = .slice none 0 0 ∧ i = .int .i64 0 ∧ wr = w1) (fun _ _ _ _ => 0)
  case atStart => exact ⟨rfl, rfl, rfl⟩
  case round =>
    obtain ⟨rfl, rfl, rfl⟩ := hrel
    go_wp2_with fail
    refine (sort_sl _ _ [] _ (Sl.nil _ _ _ _) (by simp)).mono ?_
    rintro e w5 ⟨rfl, s5, f5⟩
    have S5 := Lib.hid f5
    clear s5 f5
    go_wp2_with fail
    go_ret
    exact ⟨rfl, F1.out.trans1 S5.out⟩
end Go.Proofs.YtfplakdingfccaaGreat

namespace Go.Proofs.YtfplakdingfccaaGreat
open Go.RowKit
set_option linter.unusedSimpArgs false
set_option linter.unusedVariables false
theorem put_left (g : Gt) (l : List Gt) (bud : Int) : (put g l (bud - l.length)).2.2 = bud - (put g l (bud - l.length)).2.1.length ∧ l.length ≤ (put g l (bud - l.length)).2.1.length ∧ (put g l (bud - l.length)).2.1.length ≤ l.length + 1 := by
  unfold put
  split
  · exact ⟨rfl, Nat.le_refl _, Nat.le_succ _⟩
  · split
    · refine ⟨?_, ?_, ?_⟩ <;> simp <;> omega
    · exact ⟨rfl, Nat.le_refl _, Nat.le_succ _⟩
theorem mkVar_left (t : Int) (l : List Gt) (bud : Int) : (mkVar t l (bud - l.length)).2.2 = bud - (mkVar t l (bud - l.length)).2.1.length ∧ l.length ≤ (mkVar t l (bud - l.length)).2.1.length ∧ (mkVar t l (bud - l.length)).2.1.length ≤ l.length + 1 := by
  unfold mkVar
  split
  · exact ⟨rfl, Nat.le_refl _, Nat.le_succ _⟩
  · exact put_left _ _ _
theorem mkPlus_left (a b : Int) (l : List Gt) (bud : Int) : (mkPlus a b l (bud - l.length)).2.2 = bud - (mkPlus a b l (bud - l.length)).2.1.length ∧ l.length ≤ (mkPlus a b l (bud - l.length)).2.1.length ∧ (mkPlus a b l (bud - l.length)).2.1.length ≤ l.length + 1 := by
  unfold mkPlus
  repeat' split
  all_goals first | exact ⟨rfl, Nat.le_refl _, Nat.le_succ _⟩ | exact put_left _ _ _
theorem mkTimes_left (a b : Int) (l : List Gt) (bud : Int) : (mkTimes a b l (bud - l.length)).2.2 = bud - (mkTimes a b l (bud - l.length)).2.1.length ∧ l.length ≤ (mkTimes a b l (bud - l.length)).2.1.length ∧ (mkTimes a b l (bud - l.length)).2.1.length ≤ l.length + 1 := by
  unfold mkTimes
  repeat' split
  all_goals first | exact ⟨rfl, Nat.le_refl _, Nat.le_succ _⟩ | exact put_left _ _ _
theorem mkStar_left (a : Int) (l : List Gt) (bud : Int) : (mkStar a l (bud - l.length)).2.2 = bud - (mkStar a l (bud - l.length)).2.1.length ∧ l.length ≤ (mkStar a l (bud - l.length)).2.1.length ∧ (mkStar a l (bud - l.length)).2.1.length ≤ l.length + 1 := by
  unfold mkStar
  repeat' split
  all_goals first | exact ⟨rfl, Nat.le_refl _, Nat.le_succ _⟩ | exact put_left _ _ _
theorem mkSum_left : ∀ (xs : List Int) (acc : Int) (l : List Gt) (bud : Int), (mkSum xs acc l (bud - l.length)).2.2 = bud - (mkSum xs acc l (bud - l.length)).2.1.length ∧ l.length ≤ (mkSum xs acc l (bud - l.length)).2.1.length ∧ (mkSum xs acc l (bud - l.length)).2.1.length ≤ l.length + xs.length := by
  intro xs
  induction xs with
  | nil => intro acc l bud; exact ⟨rfl, Nat.le_refl _, Nat.le_refl _⟩
  | cons x t ih =>
    intro acc l bud
    have hp := mkPlus_left acc x l bud
    unfold mkSum
    generalize mkPlus acc x l (bud - l.length) = p at *
    obtain ⟨p1, p2, p3⟩ := p
    simp only at *
    obtain ⟨h1, h2, h3⟩ := hp
    split
    · rw [h1]
      have := ih p1.1 p2 bud
      refine ⟨this.1, by omega, by simp only [List.length_cons]; omega⟩
    · exact ⟨h1, h2, by simp only [List.length_cons]; omega⟩

theorem REnd.comp {w w1 w' : World} {pb : Nat} {F F1 : List Nat} {l : List Gt} {bud : Int} (b : Frame F w w1) (c : Grow F F1 w) (h : REnd w1 pb F1 l bud w') : REnd w pb F l bud w' := by
  obtain ⟨F2, a', b', c'⟩ := h
  exact ⟨F2, a', b.trans b' c, fun x hx => by
    rcases c' x hx with h | h
    · exact c x h
    · right; have := b.size; omega⟩

end Go.Proofs.YtfplakdingfccaaGreat

namespace Go.Proofs.YtfplakdingfccaaGreat
open Go.RowKit
set_option linter.unusedSimpArgs false
set_option linter.unusedVariables false

/-- circ's store at pb, the reference's at rb, both made behind w0. -/
def BSg (KB : List Nat) (Kp : World → Prop) (w0 : World) (pb rb : Nat) (l1 : List Gt) (left : Int) (l2 : List Gt) (bud : Int) (w : World) : Prop :=
  ∃ F F', St w pb F l1 left ∧ RSt w rb F' l2 bud ∧ Frame [] w0 w ∧ (∀ x ∈ F, w0.heap.size ≤ x) ∧ (∀ x ∈ F', w0.heap.size ≤ x) ∧ (∀ x ∈ F, x ∉ F') ∧ Kp w ∧ ∀ x ∈ KB, x ∉ F ∧ x ∉ F'
section
variable {KB : List Nat} {Kp : World → Prop} {w0 w w' : World} {pb rb : Nat} {l1 l2 l1' l2' : List Gt} {left left' bud : Int} {F F' : List Nat}
theorem BSg.frame (h : BSg KB Kp w0 pb rb l1 left l2 bud w) : Frame [] w0 w := by obtain ⟨_, _, _, _, f, _⟩ := h; exact f
theorem BSg.quiet (hK : Keep KB Kp) (h : BSg KB Kp w0 pb rb l1 left l2 bud w) (f : Frame [] w w') : BSg KB Kp w0 pb rb l1 left l2 bud w' := by
  obtain ⟨F, F', s, r, f0, n, n', d, k, kb⟩ := h
  exact ⟨F, F', s.frame0 f, r.frame0 f, f0.trans1 f, n, n', d, hK.st _ _ _ k f (by simp), kb⟩
theorem BSg.step1 (hK : Keep KB Kp) (k : Kp w) (kb : ∀ x ∈ KB, x ∉ F ∧ x ∉ F') (s : St w pb F l1 left) (r : RSt w rb F' l2 bud) (f : Frame [] w0 w) (n : ∀ x ∈ F, w0.heap.size ≤ x) (n' : ∀ x ∈ F', w0.heap.size ≤ x) (d : ∀ x ∈ F, x ∉ F') (h : StEnd w pb F l1' left' w') : BSg KB Kp w0 pb rb l1' left' l2 bud w' := by
  obtain ⟨F1, a, b, c⟩ := h
  have hz := f.size
  refine ⟨F1, F', a, r.frame b (fun x hx hm => d x hm hx), f.trans b (fun x hx => .inr (n x hx)), fun x hx => ?_, n', fun x hx hm => ?_, hK.st _ _ _ k b (fun x hx => (kb x hx).1), fun x hx => ⟨fun hm => ?_, (kb x hx).2⟩⟩
  · rcases c x hx with h | h
    · exact n x h
    · omega
  · rcases c x hx with h | h
    · exact d x h hm
    · have := r.lt x hm; omega
  · rcases c x hm with h | h
    · exact (kb x hx).1 h
    · have := hK.lt _ k x hx; omega
theorem BSg.step2 (hK : Keep KB Kp) (k : Kp w) (kb : ∀ x ∈ KB, x ∉ F ∧ x ∉ F') (s : St w pb F l1 left) (r : RSt w rb F' l2 bud) (f : Frame [] w0 w) (n : ∀ x ∈ F, w0.heap.size ≤ x) (n' : ∀ x ∈ F', w0.heap.size ≤ x) (d : ∀ x ∈ F, x ∉ F') (h : REnd w rb F' l2' bud w') : BSg KB Kp w0 pb rb l1 left l2' bud w' := by
  obtain ⟨F1, a, b, c⟩ := h
  have hz := f.size
  refine ⟨F, F1, s.frame b (fun x hx hm => d x hx hm), a, f.trans b (fun x hx => .inr (n' x hx)), n, fun x hx => ?_, fun x hx hm => ?_, hK.st _ _ _ k b (fun x hx => (kb x hx).2), fun x hx => ⟨(kb x hx).1, fun hm => ?_⟩⟩
  · rcases c x hx with h | h
    · exact n' x h
    · omega
  · rcases c x hm with h | h
    · exact d x hx h
    · have := s.lt x hx; omega
  · rcases c x hm with h | h
    · exact (kb x hx).2 h
    · have := hK.lt _ k x hx; omega
theorem BSg.more {T : Nat} {cs : Array Value} (h : BSg [] (fun _ => True) w0 pb rb l1 left l2 bud w) : BSg [w.heap.size] (fun w' => Blk w' w.heap.size T cs) w0 pb rb l1 left l2 bud (w.alloc (.cells cs T)) := by
  obtain ⟨F, F', s, r, f, n, n', d, k, kb⟩ := h
  have fa : Frame [] w (w.alloc (.cells cs T)) := Frame.alloc _ _ _
  exact ⟨F, F', s.frame0 fa, r.frame0 fa, f.trans1 fa, n, n', d, Blk.new _ _ _, fun x hx => by
    simp at hx; subst hx
    exact ⟨fun hm => absurd (s.lt _ hm) (by omega), fun hm => absurd (r.lt _ hm) (by omega)⟩⟩
theorem BSg.kp (h : BSg KB Kp w0 pb rb l1 left l2 bud w) : Kp w := by
  obtain ⟨F, F', s, r, f, n, n', d, k, kb⟩ := h
  exact k
theorem BSg.less (h : BSg KB Kp w0 pb rb l1 left l2 bud w) : BSg [] (fun _ => True) w0 pb rb l1 left l2 bud w := by
  obtain ⟨F, F', s, r, f, n, n', d, k, kb⟩ := h
  exact ⟨F, F', s, r, f, n, n', d, trivial, by simp⟩
theorem BSg.var (hK : Keep KB Kp) (h : BSg KB Kp w0 pb rb l1 left l2 bud w) (t : Int) (h0 : 0 < l1.length) :
    Calls Tryz.prog 39 #[.pointer (some ⟨pb, 0, none⟩), .int .i64 t] w fun e w' => e = .returned (.tuple #[.int .i64 (mkVar t l1 left).1.1, .int .i64 (mkVar t l1 left).1.2]) ∧ BSg KB Kp w0 pb rb (mkVar t l1 left).2.1 (mkVar t l1 left).2.2 l2 bud w' := by
  obtain ⟨F, F', s, r, f, n, n', d, k, kb⟩ := h
  exact (var_any pb F l1 left t w s h0).mono fun e w' ⟨h1, h2⟩ => ⟨h1, BSg.step1 hK k kb s r f n n' d h2⟩
theorem BSg.rvar (hK : Keep KB Kp) (h : BSg KB Kp w0 pb rb l1 left l2 bud w) (t : Int) (hl : l2.length ≤ 1000000) :
    Calls Tryz.prog 40 #[.pointer (some ⟨rb, 0, none⟩), .int .i64 t] w fun e w' => e = .returned (.tuple #[.int .i64 (mkVar t l2 (bud - l2.length)).1.1, .int .i64 (mkVar t l2 (bud - l2.length)).1.2]) ∧ BSg KB Kp w0 pb rb l1 left (mkVar t l2 (bud - l2.length)).2.1 bud w' := by
  obtain ⟨F, F', s, r, f, n, n', d, k, kb⟩ := h
  exact (rvar_any r t hl).mono fun e w' ⟨h1, h2⟩ => ⟨h1, BSg.step2 hK k kb s r f n n' d h2⟩
theorem BSg.plus (hK : Keep KB Kp) (h : BSg KB Kp w0 pb rb l1 left l2 bud w) (a b : Int) (h0 : 0 < l1.length) :
    Calls Tryz.prog 41 #[.pointer (some ⟨pb, 0, none⟩), .int .i64 a, .int .i64 b] w fun e w' => e = .returned (.tuple #[.int .i64 (mkPlus a b l1 left).1.1, .int .i64 (mkPlus a b l1 left).1.2]) ∧ BSg KB Kp w0 pb rb (mkPlus a b l1 left).2.1 (mkPlus a b l1 left).2.2 l2 bud w' := by
  obtain ⟨F, F', s, r, f, n, n', d, k, kb⟩ := h
  exact (plus_any pb F l1 left a b w s h0).mono fun e w' ⟨h1, h2⟩ => ⟨h1, BSg.step1 hK k kb s r f n n' d h2⟩
theorem BSg.rplus (hK : Keep KB Kp) (h : BSg KB Kp w0 pb rb l1 left l2 bud w) (a b : Int) (hl : l2.length ≤ 1000000) :
    Calls Tryz.prog 42 #[.pointer (some ⟨rb, 0, none⟩), .int .i64 a, .int .i64 b] w fun e w' => e = .returned (.tuple #[.int .i64 (mkPlus a b l2 (bud - l2.length)).1.1, .int .i64 (mkPlus a b l2 (bud - l2.length)).1.2]) ∧ BSg KB Kp w0 pb rb l1 left (mkPlus a b l2 (bud - l2.length)).2.1 bud w' := by
  obtain ⟨F, F', s, r, f, n, n', d, k, kb⟩ := h
  exact (rplus_any r a b hl).mono fun e w' ⟨h1, h2⟩ => ⟨h1, BSg.step2 hK k kb s r f n n' d h2⟩
theorem BSg.times (hK : Keep KB Kp) (h : BSg KB Kp w0 pb rb l1 left l2 bud w) (a b : Int) (h0 : 0 < l1.length) :
    Calls Tryz.prog 43 #[.pointer (some ⟨pb, 0, none⟩), .int .i64 a, .int .i64 b] w fun e w' => e = .returned (.tuple #[.int .i64 (mkTimes a b l1 left).1.1, .int .i64 (mkTimes a b l1 left).1.2]) ∧ BSg KB Kp w0 pb rb (mkTimes a b l1 left).2.1 (mkTimes a b l1 left).2.2 l2 bud w' := by
  obtain ⟨F, F', s, r, f, n, n', d, k, kb⟩ := h
  exact (times_any pb F l1 left a b w s h0).mono fun e w' ⟨h1, h2⟩ => ⟨h1, BSg.step1 hK k kb s r f n n' d h2⟩
theorem BSg.rtimes (hK : Keep KB Kp) (h : BSg KB Kp w0 pb rb l1 left l2 bud w) (a b : Int) (hl : l2.length ≤ 1000000) :
    Calls Tryz.prog 44 #[.pointer (some ⟨rb, 0, none⟩), .int .i64 a, .int .i64 b] w fun e w' => e = .returned (.tuple #[.int .i64 (mkTimes a b l2 (bud - l2.length)).1.1, .int .i64 (mkTimes a b l2 (bud - l2.length)).1.2]) ∧ BSg KB Kp w0 pb rb l1 left (mkTimes a b l2 (bud - l2.length)).2.1 bud w' := by
  obtain ⟨F, F', s, r, f, n, n', d, k, kb⟩ := h
  exact (rtimes_any r a b hl).mono fun e w' ⟨h1, h2⟩ => ⟨h1, BSg.step2 hK k kb s r f n n' d h2⟩
theorem BSg.star (hK : Keep KB Kp) (h : BSg KB Kp w0 pb rb l1 left l2 bud w) (a : Int) (h0 : 0 < l1.length) :
    Calls Tryz.prog 45 #[.pointer (some ⟨pb, 0, none⟩), .int .i64 a] w fun e w' => e = .returned (.tuple #[.int .i64 (mkStar a l1 left).1.1, .int .i64 (mkStar a l1 left).1.2]) ∧ BSg KB Kp w0 pb rb (mkStar a l1 left).2.1 (mkStar a l1 left).2.2 l2 bud w' := by
  obtain ⟨F, F', s, r, f, n, n', d, k, kb⟩ := h
  exact (star_any pb F l1 left a w s h0).mono fun e w' ⟨h1, h2⟩ => ⟨h1, BSg.step1 hK k kb s r f n n' d h2⟩
theorem BSg.rstar (hK : Keep KB Kp) (h : BSg KB Kp w0 pb rb l1 left l2 bud w) (a : Int) (hl : l2.length ≤ 1000000) :
    Calls Tryz.prog 46 #[.pointer (some ⟨rb, 0, none⟩), .int .i64 a] w fun e w' => e = .returned (.tuple #[.int .i64 (mkStar a l2 (bud - l2.length)).1.1, .int .i64 (mkStar a l2 (bud - l2.length)).1.2]) ∧ BSg KB Kp w0 pb rb l1 left (mkStar a l2 (bud - l2.length)).2.1 bud w' := by
  obtain ⟨F, F', s, r, f, n, n', d, k, kb⟩ := h
  exact (rstar_any r a hl).mono fun e w' ⟨h1, h2⟩ => ⟨h1, BSg.step2 hK k kb s r f n n' d h2⟩
/-- A row of the law's own, apart from what was made behind. -/
theorem row_apart {a : Option Addr} {xs : List Int} {F : List Nat} (hx : xs ≠ [] → ∀ b off, a = some ⟨b, off, none⟩ → b < w0.heap.size) (n : ∀ x ∈ F, w0.heap.size ≤ x) : xs ≠ [] → RdI.Apart a F := fun h0 b off e hm => by
  have := hx h0 b off e
  have := n b hm
  omega
end
end Go.Proofs.YtfplakdingfccaaGreat

