/- Both stores side by side. -/
import Derived.Test.YtolkmapdbilolaaNoGate
import Derived.Test.YtolkmapdbilolaaRsum
import Derived.Test.YtolkmapdbilolaaAlikePure
namespace Go.Proofs.Ytolkmapdbilolaa
open Go.RowKit
set_option linter.unusedSimpArgs false
set_option linter.unusedVariables false

/-- circ's store at pb, the reference's at rb, both made behind w0. -/
def BSg (KB : List Nat) (Kp : World → Prop) (w0 : World) (pb rb : Nat) (l1 : List Gt) (left : Int) (l2 : List Gt) (bud : Int) (w : World) : Prop :=
  ∃ F F', St w pb F l1 left ∧ RSt w rb F' l2 bud ∧ Frame [] w0 w ∧ (∀ x ∈ F, w0.heap.size ≤ x) ∧ (∀ x ∈ F', w0.heap.size ≤ x) ∧ (∀ x ∈ F, x ∉ F') ∧ Kp w ∧ ∀ x ∈ KB, x ∉ F ∧ x ∉ F'
section
variable {KB : List Nat} {Kp : World → Prop} {w0 w w' : World} {pb rb : Nat} {l1 l2 l1' l2' : List Gt} {left left' bud : Int} {F F' : List Nat}
theorem BSg.frame (h : BSg KB Kp w0 pb rb l1 left l2 bud w) : Frame [] w0 w := by obtain ⟨_, _, _, _, f, _⟩ := h; exact f
theorem BSg.quiet (hK : Keep KB Kp) (h : BSg KB Kp w0 pb rb l1 left l2 bud w) (f : Frame [] w w') : BSg KB Kp w0 pb rb l1 left l2 bud w' := by
  obtain ⟨F, F', s, r, f0, n, n', d, k, kb⟩ := h
  exact ⟨F, F', s.frame0 f, r.frame0 f, f0.trans1 f, n, n', d, hK.st _ _ _ k f (by simp), kb⟩
theorem BSg.step1 (hK : Keep KB Kp) (k : Kp w) (kb : ∀ x ∈ KB, x ∉ F ∧ x ∉ F') (s : St w pb F l1 left) (r : RSt w rb F' l2 bud) (f : Frame [] w0 w) (n : ∀ x ∈ F, w0.heap.size ≤ x) (n' : ∀ x ∈ F', w0.heap.size ≤ x) (d : ∀ x ∈ F, x ∉ F') (h : StEnd w pb F l1' left' w') : BSg KB Kp w0 pb rb l1' left' l2 bud w' := by
  obtain ⟨F1, a, b, c⟩ := h
  have hz := f.size
  refine ⟨F1, F', a, r.frame b (fun x hx hm => d x hm hx), f.trans b (fun x hx => .inr (n x hx)), fun x hx => ?_, n', fun x hx hm => ?_, hK.st _ _ _ k b (fun x hx => (kb x hx).1), fun x hx => ⟨fun hm => ?_, (kb x hx).2⟩⟩
  · rcases c x hx with h | h
    · exact n x h
    · omega
  · rcases c x hx with h | h
    · exact d x h hm
    · have := r.lt x hm; omega
  · rcases c x hm with h | h
    · exact (kb x hx).1 h
    · have := hK.lt _ k x hx; omega
theorem BSg.step2 (hK : Keep KB Kp) (k : Kp w) (kb : ∀ x ∈ KB, x ∉ F ∧ x ∉ F') (s : St w pb F l1 left) (r : RSt w rb F' l2 bud) (f : Frame [] w0 w) (n : ∀ x ∈ F, w0.heap.size ≤ x) (n' : ∀ x ∈ F', w0.heap.size ≤ x) (d : ∀ x ∈ F, x ∉ F') (h : REnd w rb F' l2' bud w') : BSg KB Kp w0 pb rb l1 left l2' bud w' := by
  obtain ⟨F1, a, b, c⟩ := h
  have hz := f.size
  refine ⟨F, F1, s.frame b (fun x hx hm => d x hx hm), a, f.trans b (fun x hx => .inr (n' x hx)), n, fun x hx => ?_, fun x hx hm => ?_, hK.st _ _ _ k b (fun x hx => (kb x hx).2), fun x hx => ⟨(kb x hx).1, fun hm => ?_⟩⟩
  · rcases c x hx with h | h
    · exact n' x h
    · omega
  · rcases c x hm with h | h
    · exact d x hx h
    · have := s.lt x hx; omega
  · rcases c x hm with h | h
    · exact (kb x hx).2 h
    · have := hK.lt _ k x hx; omega
theorem BSg.more {T : Nat} {cs : Array Value} (h : BSg [] (fun _ => True) w0 pb rb l1 left l2 bud w) : BSg [w.heap.size] (fun w' => Blk w' w.heap.size T cs) w0 pb rb l1 left l2 bud (w.alloc (.cells cs T)) := by
  obtain ⟨F, F', s, r, f, n, n', d, k, kb⟩ := h
  have fa : Frame [] w (w.alloc (.cells cs T)) := Frame.alloc _ _ _
  exact ⟨F, F', s.frame0 fa, r.frame0 fa, f.trans1 fa, n, n', d, Blk.new _ _ _, fun x hx => by
    simp at hx; subst hx
    exact ⟨fun hm => absurd (s.lt _ hm) (by omega), fun hm => absurd (r.lt _ hm) (by omega)⟩⟩
theorem BSg.kp (h : BSg KB Kp w0 pb rb l1 left l2 bud w) : Kp w := by
  obtain ⟨F, F', s, r, f, n, n', d, k, kb⟩ := h
  exact k
theorem BSg.less (h : BSg KB Kp w0 pb rb l1 left l2 bud w) : BSg [] (fun _ => True) w0 pb rb l1 left l2 bud w := by
  obtain ⟨F, F', s, r, f, n, n', d, k, kb⟩ := h
  exact ⟨F, F', s, r, f, n, n', d, trivial, by simp⟩
theorem BSg.var (hK : Keep KB Kp) (h : BSg KB Kp w0 pb rb l1 left l2 bud w) (t : Int) (h0 : 0 < l1.length) :
    Calls Try.prog 17 #[.pointer (some ⟨pb, 0, none⟩), .int .i64 t] w fun e w' => e = .returned (.tuple #[.int .i64 (mkVar t l1 left).1.1, .int .i64 (mkVar t l1 left).1.2]) ∧ BSg KB Kp w0 pb rb (mkVar t l1 left).2.1 (mkVar t l1 left).2.2 l2 bud w' := by
  obtain ⟨F, F', s, r, f, n, n', d, k, kb⟩ := h
  exact (var_any pb F l1 left t w s h0).mono fun e w' ⟨h1, h2⟩ => ⟨h1, BSg.step1 hK k kb s r f n n' d h2⟩
theorem BSg.rvar (hK : Keep KB Kp) (h : BSg KB Kp w0 pb rb l1 left l2 bud w) (t : Int) (hl : l2.length ≤ 1000000) :
    Calls Try.prog 103 #[.pointer (some ⟨rb, 0, none⟩), .int .i64 t] w fun e w' => e = .returned (.tuple #[.int .i64 (mkVar t l2 (bud - l2.length)).1.1, .int .i64 (mkVar t l2 (bud - l2.length)).1.2]) ∧ BSg KB Kp w0 pb rb l1 left (mkVar t l2 (bud - l2.length)).2.1 bud w' := by
  obtain ⟨F, F', s, r, f, n, n', d, k, kb⟩ := h
  exact (rvar_any r t hl).mono fun e w' ⟨h1, h2⟩ => ⟨h1, BSg.step2 hK k kb s r f n n' d h2⟩
theorem BSg.plus (hK : Keep KB Kp) (h : BSg KB Kp w0 pb rb l1 left l2 bud w) (a b : Int) (h0 : 0 < l1.length) :
    Calls Try.prog 21 #[.pointer (some ⟨pb, 0, none⟩), .int .i64 a, .int .i64 b] w fun e w' => e = .returned (.tuple #[.int .i64 (mkPlus a b l1 left).1.1, .int .i64 (mkPlus a b l1 left).1.2]) ∧ BSg KB Kp w0 pb rb (mkPlus a b l1 left).2.1 (mkPlus a b l1 left).2.2 l2 bud w' := by
  obtain ⟨F, F', s, r, f, n, n', d, k, kb⟩ := h
  exact (plus_any pb F l1 left a b w s h0).mono fun e w' ⟨h1, h2⟩ => ⟨h1, BSg.step1 hK k kb s r f n n' d h2⟩
theorem BSg.rplus (hK : Keep KB Kp) (h : BSg KB Kp w0 pb rb l1 left l2 bud w) (a b : Int) (hl : l2.length ≤ 1000000) :
    Calls Try.prog 104 #[.pointer (some ⟨rb, 0, none⟩), .int .i64 a, .int .i64 b] w fun e w' => e = .returned (.tuple #[.int .i64 (mkPlus a b l2 (bud - l2.length)).1.1, .int .i64 (mkPlus a b l2 (bud - l2.length)).1.2]) ∧ BSg KB Kp w0 pb rb l1 left (mkPlus a b l2 (bud - l2.length)).2.1 bud w' := by
  obtain ⟨F, F', s, r, f, n, n', d, k, kb⟩ := h
  exact (rplus_any r a b hl).mono fun e w' ⟨h1, h2⟩ => ⟨h1, BSg.step2 hK k kb s r f n n' d h2⟩
theorem BSg.times (hK : Keep KB Kp) (h : BSg KB Kp w0 pb rb l1 left l2 bud w) (a b : Int) (h0 : 0 < l1.length) :
    Calls Try.prog 22 #[.pointer (some ⟨pb, 0, none⟩), .int .i64 a, .int .i64 b] w fun e w' => e = .returned (.tuple #[.int .i64 (mkTimes a b l1 left).1.1, .int .i64 (mkTimes a b l1 left).1.2]) ∧ BSg KB Kp w0 pb rb (mkTimes a b l1 left).2.1 (mkTimes a b l1 left).2.2 l2 bud w' := by
  obtain ⟨F, F', s, r, f, n, n', d, k, kb⟩ := h
  exact (times_any pb F l1 left a b w s h0).mono fun e w' ⟨h1, h2⟩ => ⟨h1, BSg.step1 hK k kb s r f n n' d h2⟩
theorem BSg.rtimes (hK : Keep KB Kp) (h : BSg KB Kp w0 pb rb l1 left l2 bud w) (a b : Int) (hl : l2.length ≤ 1000000) :
    Calls Try.prog 105 #[.pointer (some ⟨rb, 0, none⟩), .int .i64 a, .int .i64 b] w fun e w' => e = .returned (.tuple #[.int .i64 (mkTimes a b l2 (bud - l2.length)).1.1, .int .i64 (mkTimes a b l2 (bud - l2.length)).1.2]) ∧ BSg KB Kp w0 pb rb l1 left (mkTimes a b l2 (bud - l2.length)).2.1 bud w' := by
  obtain ⟨F, F', s, r, f, n, n', d, k, kb⟩ := h
  exact (rtimes_any r a b hl).mono fun e w' ⟨h1, h2⟩ => ⟨h1, BSg.step2 hK k kb s r f n n' d h2⟩
theorem BSg.star (hK : Keep KB Kp) (h : BSg KB Kp w0 pb rb l1 left l2 bud w) (a : Int) (h0 : 0 < l1.length) :
    Calls Try.prog 23 #[.pointer (some ⟨pb, 0, none⟩), .int .i64 a] w fun e w' => e = .returned (.tuple #[.int .i64 (mkStar a l1 left).1.1, .int .i64 (mkStar a l1 left).1.2]) ∧ BSg KB Kp w0 pb rb (mkStar a l1 left).2.1 (mkStar a l1 left).2.2 l2 bud w' := by
  obtain ⟨F, F', s, r, f, n, n', d, k, kb⟩ := h
  exact (star_any pb F l1 left a w s h0).mono fun e w' ⟨h1, h2⟩ => ⟨h1, BSg.step1 hK k kb s r f n n' d h2⟩
theorem BSg.rstar (hK : Keep KB Kp) (h : BSg KB Kp w0 pb rb l1 left l2 bud w) (a : Int) (hl : l2.length ≤ 1000000) :
    Calls Try.prog 106 #[.pointer (some ⟨rb, 0, none⟩), .int .i64 a] w fun e w' => e = .returned (.tuple #[.int .i64 (mkStar a l2 (bud - l2.length)).1.1, .int .i64 (mkStar a l2 (bud - l2.length)).1.2]) ∧ BSg KB Kp w0 pb rb l1 left (mkStar a l2 (bud - l2.length)).2.1 bud w' := by
  obtain ⟨F, F', s, r, f, n, n', d, k, kb⟩ := h
  exact (rstar_any r a hl).mono fun e w' ⟨h1, h2⟩ => ⟨h1, BSg.step2 hK k kb s r f n n' d h2⟩
/-- A row of the law's own, apart from what was made behind. -/
theorem row_apart {a : Option Addr} {xs : List Int} {F : List Nat} (hx : xs ≠ [] → ∀ b off, a = some ⟨b, off, none⟩ → b < w0.heap.size) (n : ∀ x ∈ F, w0.heap.size ≤ x) : xs ≠ [] → RdI.Apart a F := fun h0 b off e hm => by
  have := hx h0 b off e
  have := n b hm
  omega
theorem BSg.sum (hK : Keep KB Kp) (h : BSg KB Kp w0 pb rb l1 left l2 bud w) (a : Option Addr) (cap : Nat) (xs : List Int) (hx : RdI w0 a xs) (hb : xs ≠ [] → ∀ b off, a = some ⟨b, off, none⟩ → b < w0.heap.size) (hl : xs.length ≤ 1073741824) (h0 : 0 < l1.length) :
    Calls Try.prog 25 #[.pointer (some ⟨pb, 0, none⟩), .slice a xs.length cap] w fun e w' => e = .returned (.tuple #[.int .i64 (mkSum xs 0 l1 left).1.1, .int .i64 (mkSum xs 0 l1 left).1.2]) ∧ BSg KB Kp w0 pb rb (mkSum xs 0 l1 left).2.1 (mkSum xs 0 l1 left).2.2 l2 bud w' := by
  obtain ⟨F, F', s, r, f, n, n', d, k, kb⟩ := h
  exact (sum_any' pb F l1 left a cap xs w s h0 (hx.frame f) (row_apart hb n) hl).mono fun e w' ⟨h1, h2⟩ => ⟨h1, BSg.step1 hK k kb s r f n n' d h2⟩
theorem BSg.rsum (hK : Keep KB Kp) (h : BSg KB Kp w0 pb rb l1 left l2 bud w) (a : Option Addr) (cap : Nat) (xs : List Int) (hx : RdI w0 a xs) (hb : xs ≠ [] → ∀ b off, a = some ⟨b, off, none⟩ → b < w0.heap.size) (hl : l2.length + xs.length ≤ 1000000) :
    Calls Try.prog 107 #[.pointer (some ⟨rb, 0, none⟩), .slice a xs.length cap] w fun e w' => e = .returned (.tuple #[.int .i64 (mkSum xs 0 l2 (bud - l2.length)).1.1, .int .i64 (mkSum xs 0 l2 (bud - l2.length)).1.2]) ∧ BSg KB Kp w0 pb rb l1 left (mkSum xs 0 l2 (bud - l2.length)).2.1 bud w' := by
  obtain ⟨F, F', s, r, f, n, n', d, k, kb⟩ := h
  exact (rsum_any' rb F' l2 bud a cap xs w r (hx.frame f) (row_apart hb n') hl).mono fun e w' ⟨h1, h2⟩ => ⟨h1, BSg.step2 hK k kb s r f n n' d h2⟩
end
end Go.Proofs.Ytolkmapdbilolaa
