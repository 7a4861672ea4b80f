/- What the laws of tansylaw5 share. -/
import Derived.Test.YtojfemaamhampaaAntiLeastWalk
import Derived.Test.YtojfemaamhampaaTimes6
namespace Go.Proofs.Ytojfemaamhampaa
open Go.RowKit
set_option linter.unusedSimpArgs false
set_option linter.unusedVariables false

theorem rf_blkW {w : World} {b T : Nat} {cs : Array Value} {ws : List SW} (h : Blk w b T cs) (hc : cs.toList = ws.map (fun r => Value.slice r.a r.vs.length r.c)) : RF (fun x => x < w.heap.size) w 1 encW (some ⟨b, 0, none⟩) ws := fun k s hs => by
  refine ⟨b, 0, rfl, h.lt, fun j u hu => ?_⟩
  cases j with
  | zero =>
    simp [encW] at hu
    subst hu
    have := h.at k (v := Value.slice s.a s.vs.length s.c) (by rw [← Array.getElem?_toList, hc]; simp [hs])
    rw [Nat.mul_one, Nat.add_zero, Nat.zero_add]
    exact this
  | succ j => simp [encW] at hu
theorem small_two (a b : Option Addr) (c d : Nat) (vs us : List SV) (w : World) (h : Arg5 w a vs) (k : Arg5 w b us) :
    Calls Try.prog 13 #[.slice (some ⟨w.heap.size, 0, none⟩) 2 2] (w.alloc (.cells #[.slice a vs.length c, .slice b us.length d] 26)) fun e w' => e = .returned (.bool (decide (SmallW [⟨a, c, vs⟩, ⟨b, d, us⟩]))) ∧ Frame [] w w' := by
  refine (small_any _ (some ⟨w.heap.size, 0, none⟩) 2 [⟨a, c, vs⟩, ⟨b, d, us⟩] _ (rf_blkW (Blk.new w 26 #[.slice a vs.length c, .slice b us.length d]) rfl) (fun r hr => ?_) (by simp)).mono ?_
  · simp only [List.mem_cons, List.not_mem_nil, or_false] at hr
    rcases hr with rfl | rfl
    · exact (h.frame (Frame.alloc [] _ _)).rf
    · exact (k.frame (Frame.alloc [] _ _)).rf
  · rintro e w' ⟨he, f⟩
    exact ⟨he, (Frame.alloc [] _ _).trans1 f⟩
theorem small_parts2 {a b : Option Addr} {c d : Nat} {vs us : List SV} (h : SmallW [⟨a, c, vs⟩, ⟨b, d, us⟩]) : (vs.length ≤ 12 ∧ ∀ s ∈ vs, s.l.length ≤ 12) ∧ us.length ≤ 12 ∧ ∀ s ∈ us, s.l.length ≤ 12 := by
  have h1 := h.1 ⟨a, c, vs⟩ (by simp)
  have h2 := h.1 ⟨b, d, us⟩ (by simp)
  exact ⟨⟨h1.1, h1.2⟩, h2.1, h2.2⟩
theorem least_short {L : List (List Int)} {n : Nat} (h : ∀ t ∈ L, t.length ≤ n) : ∀ s ∈ leastR L, s.length ≤ n := fun s hs => by
  obtain ⟨t, ht, rfl⟩ := least_from hs
  exact Nat.le_trans (srtI_len t) (h t ht)
theorem plus_len (f g : List (List Int)) : (plusL f g).length ≤ f.length + g.length := by
  have := leastR_len (f ++ g)
  rw [List.length_append] at this
  exact this
theorem unions_len (f g : List (List Int)) : (unionsL f g).length = f.length * g.length := by
  have := unS_len f g
  rw [unS_eq, List.length_map] at this
  exact this
theorem times_len (f g : List (List Int)) : (timesL f g).length ≤ f.length * g.length := by
  have := leastR_len (unionsL f g)
  rw [unions_len] at this
  exact this
theorem plus_short {f g : List (List Int)} {n : Nat} (hf : ∀ s ∈ f, s.length ≤ n) (hg : ∀ s ∈ g, s.length ≤ n) : ∀ s ∈ plusL f g, s.length ≤ n :=
  least_short fun t ht => (List.mem_append.1 ht).elim (hf t) (hg t)
theorem times_short {f g : List (List Int)} {n m : Nat} (hf : ∀ s ∈ f, s.length ≤ n) (hg : ∀ s ∈ g, s.length ≤ m) : ∀ s ∈ timesL f g, s.length ≤ n + m :=
  least_short fun t ht => by
    obtain ⟨x, hx, h1⟩ := List.mem_flatMap.1 ht
    obtain ⟨y, hy, rfl⟩ := List.mem_map.1 h1
    have := hf x hx
    have := hg y hy
    rw [List.length_append]
    omega
theorem plus_ups (f g : List (List Int)) : Ups (plusL f g) := leastR_ups _
theorem times_ups (f g : List (List Int)) : Ups (timesL f g) := leastR_ups _
/-- A family: its value in a world, and what is known of it. -/
structure FamV (w : World) (a : Option Addr) (n c : Nat) (f : List (List Int)) (N M : Nat) : Prop where
  v : FV w (.agg #[.slice a n c]) f
  up : Ups f
  le : f.length ≤ N
  sh : ∀ s ∈ f, s.length ≤ M
theorem FamV.frame {w w' : World} {a : Option Addr} {n c N M : Nat} {f : List (List Int)} (h : FamV w a n c f N M) (k : Frame [] w w') : FamV w' a n c f N M := ⟨h.v.frame k, h.up, h.le, h.sh⟩
def OfEnd (f : List (List Int)) (N M : Nat) (w : World) (e : Ending) (w' : World) : Prop := ∃ a n c, e = .returned (.tuple #[.agg #[.slice a n c], .int .i64 0]) ∧ FamV w' a n c f N M ∧ Frame [] w w'
theorem of_good (a : Option Addr) (c : Nat) (vs : List SV) (w : World) (h : RV w a vs) (hl : vs.length ≤ 12) (hs : ∀ s ∈ vs, s.l.length ≤ 12) (hg : goodL (vs.map (·.l)) = true) :
    Calls Try.prog 15 #[.slice a vs.length c] w (OfEnd (leastR (vs.map (·.l))) vs.length 12 w) := by
  have := aof_any a c vs w h (by omega)
  rw [hg] at this
  refine this.mono ?_
  rintro e w' ⟨v, rfl, hv, f⟩
  obtain ⟨a', n', c', rfl⟩ := (show FV w' v (leastR (vs.map (·.l))) from hv).parts
  refine ⟨a', n', c', rfl, ⟨hv, leastR_ups _, ?_, least_short fun t ht => ?_⟩, f⟩
  · have := leastR_len (vs.map (·.l))
    rwa [List.length_map] at this
  · obtain ⟨s, hs', rfl⟩ := List.mem_map.1 ht
    exact hs s hs'
theorem plus_good {a b : Option Addr} {n m c d N M P : Nat} {f g : List (List Int)} {w : World} (hf : FamV w a n c f N P) (hg : FamV w b m d g M P) (hN : N + M ≤ 5000) (budget : Int) (hb : ((plusL f g).length : Int) ≤ budget) :
    Calls Try.prog 19 #[.agg #[.slice a n c], .agg #[.slice b m d], .int .i64 budget] w (OfEnd (plusL f g) (N + M) P w) := by
  have h1 := plus_len f g
  have h2 := hf.le
  have h3 := hg.le
  refine (aplus_ok _ _ f g budget w hf.v hg.v hf.up hg.up (by omega) (by omega) hb (by omega)).mono ?_
  rintro e w' ⟨v, rfl, hv, fr⟩
  obtain ⟨a', n', c', rfl⟩ := hv.fv.parts
  exact ⟨a', n', c', rfl, ⟨hv.fv, plus_ups f g, by omega, plus_short hf.sh hg.sh⟩, fr⟩
theorem times_good {a b : Option Addr} {n m c d N M P Q : Nat} {f g : List (List Int)} {w : World} (hf : FamV w a n c f N P) (hg : FamV w b m d g M Q) (hN : N * M ≤ 5000) (hN1 : N ≤ 100000) (hM1 : M ≤ 100000) (hP : P ≤ 500) (hQ : Q ≤ 500) (budget : Int) (hb : ((timesL f g).length : Int) ≤ budget) :
    Calls Try.prog 21 #[.agg #[.slice a n c], .agg #[.slice b m d], .int .i64 budget] w (OfEnd (timesL f g) (N * M) (P + Q) w) := by
  have h1 := times_len f g
  have h2 := hf.le
  have h3 := hg.le
  have h4 : f.length * g.length ≤ N * M := Nat.mul_le_mul h2 h3
  refine (atimes_ok _ _ f g budget w hf.v hg.v hf.up hg.up ⟨by omega, by omega, by omega⟩ ⟨fun s hs => Nat.le_trans (hf.sh s hs) hP, fun s hs => Nat.le_trans (hg.sh s hs) hQ⟩ hb (by omega)).mono ?_
  rintro e w' ⟨v, rfl, hv, fr⟩
  obtain ⟨a', n', c', rfl⟩ := hv.fv.parts
  exact ⟨a', n', c', rfl, ⟨hv.fv, times_ups f g, by omega, times_short hf.sh hg.sh⟩, fr⟩
end Go.Proofs.Ytojfemaamhampaa
