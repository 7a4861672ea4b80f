/- Families: how the reference finds them; sums, products. -/
import Derived.Test.YtojfemaamhampaaAntiPure
namespace Go.Proofs.Ytojfemaamhampaa
open Go.RowKit
set_option linter.unusedSimpArgs false
set_option linter.unusedVariables false

/-- Where a set belongs among sets in order. -/
def rankO (out : List (List Int)) (x : List Int) : Nat := out.countP fun t => !decide (LtO x t)
theorem rankO_split {out : List (List Int)} (h : out.Pairwise LtO) (x : List Int) : (∀ y ∈ out.take (rankO out x), ¬ LtO x y) ∧ (∀ y ∈ out.drop (rankO out x), LtO x y) := by
  induction out with
  | nil => simp
  | cons t s ih =>
    obtain ⟨h1, h2⟩ := List.pairwise_cons.1 h
    by_cases hx : LtO x t
    · have e : rankO (t :: s) x = 0 := by
        unfold rankO
        rw [List.countP_eq_zero]
        intro y hy
        rcases List.mem_cons.1 hy with rfl | hy
        · simpa using hx
        · simpa using hx.trans (h1 y hy)
      rw [e]
      refine ⟨by simp, fun y hy => ?_⟩
      simp at hy
      rcases hy with rfl | hy
      · exact hx
      · exact hx.trans (h1 y hy)
    · have e : rankO (t :: s) x = rankO s x + 1 := by simp [rankO, hx]
      rw [e]
      obtain ⟨i1, i2⟩ := ih h2
      refine ⟨fun y hy => ?_, fun y hy => i2 y (by simpa using hy)⟩
      simp at hy
      rcases hy with rfl | hy
      · exact hx
      · exact i1 y hy
theorem rankO_le (out : List (List Int)) (x : List Int) : rankO out x ≤ out.length := List.countP_le_length
def putO (out : List (List Int)) (x : List Int) : List (List Int) := out.take (rankO out x) ++ x :: out.drop (rankO out x)
theorem putO_mem (out : List (List Int)) (x y : List Int) : y ∈ putO out x ↔ y = x ∨ y ∈ out := by
  unfold putO
  constructor
  · intro h1
    simp only [List.mem_append, List.mem_cons] at h1
    rcases h1 with h1 | h1 | h1
    · exact .inr (List.mem_of_mem_take h1)
    · exact .inl h1
    · exact .inr (List.mem_of_mem_drop h1)
  · rintro (rfl | h1)
    · simp
    · rw [← List.take_append_drop (rankO out x) out] at h1
      rcases List.mem_append.1 h1 with h1 | h1 <;> simp [h1]
theorem putO_up {out : List (List Int)} {x : List Int} (h : out.Pairwise LtO) (hm : x ∉ out) : (putO out x).Pairwise LtO := by
  obtain ⟨h1, h2⟩ := rankO_split h x
  have h3 : ∀ y ∈ out.take (rankO out x), LtO y x := fun y hy => by
    rcases LtO.total y x with h | h | h
    · exact h
    · exact absurd (List.mem_of_mem_take hy) (h ▸ hm)
    · exact absurd h (h1 y hy)
  have hu := h
  unfold putO
  rw [← List.take_append_drop (rankO out x) out, List.pairwise_append] at hu
  rw [List.pairwise_append]
  refine ⟨hu.1, List.pairwise_cons.2 ⟨h2, hu.2.1⟩, fun a ha b hb => ?_⟩
  rcases List.mem_cons.1 hb with rfl | hb
  · exact h3 a ha
  · exact hu.2.2 a ha b hb
/-- The reference's step. -/
def insR (out : List (List Int)) (x : List Int) : List (List Int) := if out.any (fun t => subB t x) = true then out else putO (out.filter fun t => !subB x t) x
theorem insR_step {p out : List (List Int)} {s : List Int} (hu : Ups (p ++ [s])) (hf : Fam p out) : Fam (p ++ [s]) (insR out s) := by
  have hup : Ups p := fun t ht => hu t (by simp [ht])
  have hus : Up s := hu s (by simp)
  unfold insR
  by_cases h : out.any (fun t => subB t s) = true
  · rw [if_pos h]
    obtain ⟨t, ht, hts⟩ := (hf.has hup s).1 h
    refine ⟨hf.1, fun u => ?_⟩
    rw [hf.2 u]
    constructor
    · rintro ⟨h1, h2⟩
      refine ⟨by simp [h1], fun v hv hvu => ?_⟩
      rcases List.mem_append.1 hv with hv | hv
      · exact h2 v hv hvu
      · simp at hv; subst hv
        have e := h2 t ht (hts.trans hvu)
        subst e
        exact up_eq hus (hup t ht) fun x => ⟨hvu x, hts x⟩
    · rintro ⟨h1, h2⟩
      rcases List.mem_append.1 h1 with h1 | h1
      · exact ⟨h1, fun v hv => h2 v (by simp [hv])⟩
      · simp at h1; subst h1
        have e := h2 t (by simp [ht]) hts
        subst e
        exact ⟨ht, fun v hv => h2 v (by simp [hv])⟩
  · rw [if_neg h]
    have hh : ∀ t ∈ p, ¬ Sub t s := fun t ht hts => h ((hf.has hup s).2 ⟨t, ht, hts⟩)
    have hsp : s ∉ p := fun hm => hh s hm (Sub.refl s)
    have hr : (out.filter fun t => !subB s t).Pairwise LtO := hf.1.sublist List.filter_sublist
    have hrm : ∀ t, t ∈ (out.filter fun t => !subB s t) ↔ IsMin p t ∧ ¬ Sub s t := fun t => by
      rw [List.mem_filter, hf.2 t]
      simp only [Bool.not_eq_true', subB_false]
    refine ⟨putO_up hr (fun hm => hsp ((hrm s).1 hm).1.1), fun u => ?_⟩
    rw [putO_mem, hrm]
    constructor
    · rintro (rfl | ⟨⟨h1, h2⟩, h3⟩)
      · refine ⟨by simp, fun v hv hvs => ?_⟩
        rcases List.mem_append.1 hv with hv | hv
        · exact absurd hvs (hh v hv)
        · simpa using hv
      · refine ⟨by simp [h1], fun v hv hvu => ?_⟩
        rcases List.mem_append.1 hv with hv | hv
        · exact h2 v hv hvu
        · simp at hv; subst hv; exact absurd hvu h3
    · rintro ⟨h1, h2⟩
      rcases List.mem_append.1 h1 with h1 | h1
      · refine .inr ⟨⟨h1, fun v hv => h2 v (by simp [hv])⟩, fun hsu => ?_⟩
        have := h2 s (by simp) hsu
        subst this
        exact hsp h1
      · exact .inl (by simpa using h1)
theorem insR_all {d : List (List Int)} (hu : Ups d) : Fam d (d.foldl insR []) := by
  have : ∀ (r p out : List (List Int)), p ++ r = d → Fam p out → Fam d (r.foldl insR out) := by
    intro r
    induction r with
    | nil => intro p out e h; simp at e; subst e; exact h
    | cons s t ih =>
      intro p out e h
      refine ih (p ++ [s]) (insR out s) (by simpa using e) (insR_step (fun x hx => hu x ?_) h)
      rw [← e]; simp at hx ⊢; rcases hx with h | h <;> simp [h]
  exact this d [] [] rfl fam_nil
/-- The least ones of sets that are told. -/
def leastR (l : List (List Int)) : List (List Int) := (l.map srtI).foldl insR []
theorem ups_srt (l : List (List Int)) : Ups (l.map srtI) := fun s hs => by
  obtain ⟨t, _, rfl⟩ := List.mem_map.1 hs
  exact srtI_up t
theorem leastR_fam (l : List (List Int)) : Fam (l.map srtI) (leastR l) := insR_all (ups_srt l)
theorem leastR_ups (l : List (List Int)) : Ups (leastR l) := (leastR_fam l).ups (ups_srt l)
theorem leastR_lt (l : List (List Int)) : (leastR l).Pairwise LtO := (leastR_fam l).1
theorem map_srt_fix {f : List (List Int)} (h : Ups f) : f.map srtI = f := by
  conv => rhs; rw [← List.map_id f]
  exact List.map_congr_left fun s hs => srtI_fix (h s hs)
/-- What leastR tells holds as the sets do. -/
theorem leastR_has (l : List (List Int)) (S : List Int) : hasL (leastR l) S = hasL l S := by
  have h := (leastR_fam l).has (ups_srt l) S
  rw [Bool.eq_iff_iff, h, hasL_iff]
  constructor
  · rintro ⟨s, hs, h1⟩
    obtain ⟨t, ht, rfl⟩ := List.mem_map.1 hs
    exact ⟨t, ht, Sub.srt'.1 h1⟩
  · rintro ⟨s, hs, h1⟩
    exact ⟨srtI s, List.mem_map.2 ⟨s, hs, rfl⟩, Sub.srt'.2 h1⟩
theorem leastR_ext {l m : List (List Int)} (h : ∀ S, hasL l S = hasL m S) : leastR l = leastR m :=
  Fam.ext_has (ups_srt l) (ups_srt m) (leastR_fam l) (leastR_fam m) fun S => by rw [leastR_has, leastR_has, h]
theorem leastR_idem (l : List (List Int)) : leastR (leastR l) = leastR l := leastR_ext fun S => leastR_has l S
/-- All unions. -/
def unionsL (f g : List (List Int)) : List (List Int) := f.flatMap fun a => g.map fun b => a ++ b
theorem has_append (f g : List (List Int)) (S : List Int) : hasL (f ++ g) S = (hasL f S || hasL g S) := by simp [hasL]
theorem has_unions (f g : List (List Int)) (S : List Int) : hasL (unionsL f g) S = (hasL f S && hasL g S) := by
  rw [Bool.eq_iff_iff, Bool.and_eq_true, hasL_iff, hasL_iff, hasL_iff]
  unfold unionsL
  constructor
  · rintro ⟨s, hs, h⟩
    obtain ⟨a, ha, hs⟩ := List.mem_flatMap.1 hs
    obtain ⟨b, hb, rfl⟩ := List.mem_map.1 hs
    exact ⟨⟨a, ha, fun n hn => h n (by simp [hn])⟩, ⟨b, hb, fun n hn => h n (by simp [hn])⟩⟩
  · rintro ⟨⟨a, ha, h1⟩, ⟨b, hb, h2⟩⟩
    refine ⟨a ++ b, List.mem_flatMap.2 ⟨a, ha, List.mem_map.2 ⟨b, hb, rfl⟩⟩, fun n hn => ?_⟩
    rcases List.mem_append.1 hn with h | h
    · exact h1 n h
    · exact h2 n h
def plusL (f g : List (List Int)) : List (List Int) := leastR (f ++ g)
def timesL (f g : List (List Int)) : List (List Int) := leastR (unionsL f g)
theorem has_plus (f g : List (List Int)) (S : List Int) : hasL (plusL f g) S = (hasL f S || hasL g S) := by unfold plusL; rw [leastR_has, has_append]
theorem has_times (f g : List (List Int)) (S : List Int) : hasL (timesL f g) S = (hasL f S && hasL g S) := by unfold timesL; rw [leastR_has, has_unions]
theorem putO_len (out : List (List Int)) (x : List Int) : (putO out x).length = out.length + 1 := by
  have := rankO_le out x
  unfold putO; simp; omega
theorem insR_len (out : List (List Int)) (x : List Int) : (insR out x).length ≤ out.length + 1 := by
  unfold insR
  split
  · omega
  · rw [putO_len]
    have := List.length_filter_le (fun t => !subB x t) out
    omega
theorem leastR_len (l : List (List Int)) : (leastR l).length ≤ l.length := by
  suffices h : ∀ (l out : List (List Int)), (l.foldl insR out).length ≤ out.length + l.length by
    have := h (l.map srtI) []
    simpa [leastR] using this
  intro l
  induction l with
  | nil => simp
  | cons x t ih =>
    intro out
    have h1 := ih (insR out x)
    have h2 := insR_len out x
    rw [List.foldl_cons, List.length_cons]
    omega
end Go.Proofs.Ytojfemaamhampaa
