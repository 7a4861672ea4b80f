/- A graph's calls by values: Label, Set; what holds of a graph. -/
import Derived.Test.YtjcajidgaejhoaaMi24
namespace Go.Proofs.Ytjcajidgaejhoaa
open Go.RowKit
set_option linter.unusedSimpArgs false
set_option linter.unusedVariables false

theorem up_ins {ks : List Int} {t : Int} (hu : Up ks) (hm : t ∉ ks) : Up (ks.take (rank ks t) ++ t :: ks.drop (rank ks t)) := by
  have hlt : (∀ i (h : i < ks.length), i < rank ks t → ks[i] < t) ∧ (∀ i (h : i < ks.length), rank ks t ≤ i → t ≤ ks[i]) := by
    obtain ⟨r, hr, h1, h2⟩ : ∃ r, r ≤ ks.length ∧ (∀ i (h : i < ks.length), i < r → ks[i] < t) ∧ (∀ i (h : i < ks.length), r ≤ i → t ≤ ks[i]) := by
      clear hm
      induction ks with
      | nil => exact ⟨0, by simp, by simp, by simp⟩
      | cons a l ih =>
        obtain ⟨r, hr, h1, h2⟩ := ih (List.pairwise_cons.1 hu).2
        by_cases ha : a < t
        · refine ⟨r + 1, by simp; omega, fun i h hi => ?_, fun i h hi => ?_⟩
          · cases i with
            | zero => exact ha
            | succ i => exact h1 i (by simpa using h) (by omega)
          · cases i with
            | zero => omega
            | succ i => exact h2 i (by simpa using h) (by omega)
        · refine ⟨0, by simp, fun i h hi => by omega, fun i h _ => ?_⟩
          cases i with
          | zero => exact Int.not_lt.1 ha
          | succ i =>
            have h' : i < l.length := by simpa using h
            have := (List.pairwise_cons.1 hu).1 l[i] (by simp)
            simp only [List.getElem_cons_succ]; omega
    rw [rank_of hr h1 h2]
    exact ⟨h1, h2⟩
  have hl := rank_le ks t
  generalize rank ks t = r at *
  have hu' : Up (ks.take r ++ ks.drop r) := by rw [List.take_append_drop]; exact hu
  obtain ⟨u1, u2, u3⟩ := List.pairwise_append.1 hu'
  refine List.pairwise_append.2 ⟨u1, List.pairwise_cons.2 ⟨fun x hx => ?_, u2⟩, fun x hx y hy => ?_⟩
  · obtain ⟨i, hi, rfl⟩ := List.getElem_of_mem hx
    rw [List.getElem_drop] at *
    have := hlt.2 (r + i) (by simp at hi; omega) (by omega)
    have hne : ks[r + i]'(by simp at hi; omega) ≠ t := fun e => hm (e ▸ List.getElem_mem _)
    omega
  · have hxt : x < t := by
      obtain ⟨i, hi, rfl⟩ := List.getElem_of_mem hx
      rw [List.getElem_take]
      exact hlt.1 i (by simp at hi; omega) (by simp at hi; omega)
    rcases List.mem_cons.1 hy with rfl | hy
    · exact hxt
    · exact u3 x hx y hy
theorem upS_ins {ks : List ByteArray} {t : ByteArray} (hu : UpS ks) (hm : t ∉ ks) : UpS (ks.take (rankS ks t) ++ t :: ks.drop (rankS ks t)) := by
  have hlt := rankS_lt (t := t) hu
  have hl := rankS_le ks t
  generalize rankS ks t = r at *
  have hu' : UpS (ks.take r ++ ks.drop r) := by rw [List.take_append_drop]; exact hu
  obtain ⟨u1, u2, u3⟩ := List.pairwise_append.1 hu'
  refine List.pairwise_append.2 ⟨u1, List.pairwise_cons.2 ⟨fun x hx => ?_, u2⟩, fun x hx y hy => ?_⟩
  · obtain ⟨i, hi, rfl⟩ := List.getElem_of_mem hx
    rw [List.getElem_drop] at *
    have h1 := hlt.2 (r + i) (by simp at hi; omega) (by omega)
    cases h2 : ltS t (ks[r + i]'(by simp at hi; omega)) with
    | true => rfl
    | false => exact absurd (ltS_eq h2 h1 ▸ List.getElem_mem _) hm
  · have hxt : ltS x t = true := by
      obtain ⟨i, hi, rfl⟩ := List.getElem_of_mem hx
      rw [List.getElem_take]
      exact hlt.1 i (by simp at hi; omega) (by simp at hi; omega)
    rcases List.mem_cons.1 hy with rfl | hy
    · exact hxt
    · exact u3 x hx y hy

/-- What holds of a graph's nodes. -/
structure VOk (ns : List Nv) : Prop where
  up : Up (ns.map (·.1))
  len : ns.length ≤ 12
  ls : ∀ n ∈ ns, UpS n.2.1 ∧ n.2.1.length ≤ 8
  ps : ∀ n ∈ ns, UpS (n.2.2.map (·.name)) ∧ n.2.2.length ≤ 8
theorem VOk.nil : VOk [] := ⟨by simp [Up], by simp, by simp, by simp⟩

/-- The node with a number. -/
theorem v_split {ns : List Nv} (hu : Up (ns.map (·.1))) {t : Int} (h : t ∈ ns.map (·.1)) : ∃ A n B, ns = A ++ n :: B ∧ A.length = rank (ns.map (·.1)) t ∧ n.1 = t := by
  obtain ⟨h1, h2⟩ := rank_lt hu h
  rw [List.length_map] at h1
  generalize rank (ns.map (·.1)) t = i at *
  rw [List.getElem?_map, List.getElem?_eq_getElem h1] at h2
  exact ⟨ns.take i, ns[i], ns.drop (i + 1), by rw [List.getElem_cons_drop, List.take_append_drop], by simp; omega, by simpa using h2⟩
theorem v_rank {A B : List Nv} {n : Nv} (hu : Up ((A ++ n :: B).map (·.1))) : rank ((A ++ n :: B).map (·.1)) n.1 = A.length := by
  rw [List.map_append, List.map_cons] at hu ⊢
  rw [rank_mid hu, List.length_map]

def vLabel (ns : List Nv) (t : Int) (s : ByteArray) : Int × List Nv :=
  if namedB s = false then (2, ns) else if t ∉ ns.map (·.1) then (7, ns) else
  match ns[rank (ns.map (·.1)) t]? with
  | none => (7, ns)
  | some n => if memS s n.2.1 = true then (0, ns) else if 8 ≤ n.2.1.length then (5, ns)
    else (0, ns.take (rank (ns.map (·.1)) t) ++ (n.1, n.2.1.take (rankS n.2.1 s) ++ s :: n.2.1.drop (rankS n.2.1 s), n.2.2) :: ns.drop (rank (ns.map (·.1)) t + 1))
theorem vLabel_mid {A B : List Nv} {n : Nv} (hu : Up ((A ++ n :: B).map (·.1))) (s : ByteArray) (hs : namedB s = true) :
    vLabel (A ++ n :: B) n.1 s = if memS s n.2.1 = true then (0, A ++ n :: B) else if 8 ≤ n.2.1.length then (5, A ++ n :: B) else (0, A ++ (n.1, n.2.1.take (rankS n.2.1 s) ++ s :: n.2.1.drop (rankS n.2.1 s), n.2.2) :: B) := by
  unfold vLabel
  rw [if_neg (by simp [hs]), if_neg (by simp), v_rank hu]
  simp
def vSet (ns : List Nv) (t : Int) (s v : ByteArray) : Int × List Nv :=
  if namedB s = false ∨ namedB v = false then (2, ns) else if t ∉ ns.map (·.1) then (7, ns) else
  match ns[rank (ns.map (·.1)) t]? with
  | none => (7, ns)
  | some n => if memS s (n.2.2.map (·.name)) = true then (0, ns.take (rank (ns.map (·.1)) t) ++ (n.1, n.2.1, n.2.2.take (rankS (n.2.2.map (·.name)) s) ++ ⟨s, v⟩ :: n.2.2.drop (rankS (n.2.2.map (·.name)) s + 1)) :: ns.drop (rank (ns.map (·.1)) t + 1))
    else if 8 ≤ n.2.2.length then (5, ns)
    else (0, ns.take (rank (ns.map (·.1)) t) ++ (n.1, n.2.1, n.2.2.take (rankS (n.2.2.map (·.name)) s) ++ ⟨s, v⟩ :: n.2.2.drop (rankS (n.2.2.map (·.name)) s)) :: ns.drop (rank (ns.map (·.1)) t + 1))
theorem vSet_mid {A B : List Nv} {n : Nv} (hu : Up ((A ++ n :: B).map (·.1))) (s v : ByteArray) (hs : namedB s = true) (hv : namedB v = true) :
    vSet (A ++ n :: B) n.1 s v = if memS s (n.2.2.map (·.name)) = true then (0, A ++ (n.1, n.2.1, n.2.2.take (rankS (n.2.2.map (·.name)) s) ++ ⟨s, v⟩ :: n.2.2.drop (rankS (n.2.2.map (·.name)) s + 1)) :: B)
    else if 8 ≤ n.2.2.length then (5, A ++ n :: B) else (0, A ++ (n.1, n.2.1, n.2.2.take (rankS (n.2.2.map (·.name)) s) ++ ⟨s, v⟩ :: n.2.2.drop (rankS (n.2.2.map (·.name)) s)) :: B) := by
  unfold vSet
  rw [if_neg (by simp [hs, hv]), if_neg (by simp), v_rank hu]
  simp

theorem rn_split {rs : List Rn} {A B : List Nv} {n : Nv} (h : rs.map Rn.tell = A ++ n :: B) : ∃ A' r B', rs = A' ++ r :: B' ∧ A'.map Rn.tell = A ∧ r.tell = n ∧ B'.map Rn.tell = B := by
  obtain ⟨A', R, rfl, hA, hR⟩ := List.map_eq_append_iff.1 h
  obtain ⟨r, B', rfl, hr, hB⟩ := List.map_eq_cons_iff.1 hR
  exact ⟨A', r, B', rfl, hA, hr, hB⟩

section
variable {w : World} {pb : Nat} {F : List Nat} {ns : List Nv} {es : List Ed} {given : Int}
theorem gv_label (h : GV w pb F ns es given) (hv : VOk ns) (t : Int) (s : ByteArray) (hl : s.size ≤ 9223372036854775807) :
    Calls Try.prog 35 #[.pointer (some ⟨pb, 0, none⟩), .int .i64 t, .string s] w fun e w' => e = .returned (.int .i64 (vLabel ns t s).1) ∧ GVEnd w pb F (vLabel ns t s).2 es given w' := by
  have h0 := h
  have hu := hv.up
  have hn := hv.len
  by_cases hm : t ∈ ns.map (·.1)
  · obtain ⟨A, n, B, rfl, hA, rfl⟩ := v_split hu hm
    obtain ⟨rs, hg, hrs⟩ := h
    obtain ⟨A', r, B', rfl, rfl, rfl, rfl⟩ := rn_split hrs
    have hu' : Up (((A' ++ r :: B').map (·.nd)).map (·.id)) := by rw [← tell_ids, hrs]; exact hu
    have hn' : (A' ++ r :: B').length ≤ 1000000 := by rw [← List.length_map (f := Rn.tell), hrs]; omega
    cases hs : namedB s with
    | false =>
      have e : vLabel (A'.map Rn.tell ++ r.tell :: B'.map Rn.tell) r.tell.1 s = (2, A'.map Rn.tell ++ r.tell :: B'.map Rn.tell) := by simp [vLabel, hs]
      rw [e]
      exact (glabel_name hg hu' hn' r.nd.id s hl hs).mono fun e w' ⟨he, f⟩ => ⟨he, GVEnd.quiet h0 f⟩
    | true =>
      rw [vLabel_mid hu s hs]
      have hr := hv.ls r.tell (by simp)
      cases hq : memS s r.ls with
      | true =>
        rw [if_pos (show memS s r.tell.2.1 = true from hq)]
        exact (glabel_has hg hu' hn' s hl hs hr.1 hq).mono fun e w' ⟨he, f⟩ => ⟨he, GVEnd.quiet h0 f⟩
      | false =>
        rw [if_neg (show ¬ memS s r.tell.2.1 = true by simpa [Rn.tell] using hq)]
        by_cases h8 : 8 ≤ r.ls.length
        · rw [if_pos (show 8 ≤ r.tell.2.1.length from h8)]
          exact (glabel_full hg hu' hn' s hl hs hr.1 hq h8).mono fun e w' ⟨he, f⟩ => ⟨he, GVEnd.quiet h0 f⟩
        · rw [if_neg (show ¬ 8 ≤ r.tell.2.1.length from h8)]
          refine (glabel_ins hg hu' hn' s hl hs hr.1 hq (by omega)).mono ?_
          rintro e w' ⟨he, r', F', hr', a1, a2, a3⟩
          exact ⟨he, F', ⟨_, a1, by rw [List.map_append, List.map_cons, hr']; rfl⟩, a2, a3⟩
  · obtain ⟨rs, hg, rfl⟩ := h
    have hu' : Up ((rs.map (·.nd)).map (·.id)) := by rw [← tell_ids]; exact hu
    have hn' : rs.length ≤ 1000000 := by rw [← List.length_map (f := Rn.tell)]; omega
    cases hs : namedB s with
    | false =>
      have e : vLabel (rs.map Rn.tell) t s = (2, rs.map Rn.tell) := by simp [vLabel, hs]
      rw [e]
      exact (glabel_name hg hu' hn' t s hl hs).mono fun e w' ⟨he, f⟩ => ⟨he, GVEnd.quiet h0 f⟩
    | true =>
      have e : vLabel (rs.map Rn.tell) t s = (7, rs.map Rn.tell) := by unfold vLabel; rw [if_neg (by simp [hs]), if_pos hm]
      rw [e]
      exact (glabel_none hg hu' hn' t s hl hs (by rw [← tell_ids]; exact hm)).mono fun e w' ⟨he, f⟩ => ⟨he, GVEnd.quiet h0 f⟩
theorem gv_set (h : GV w pb F ns es given) (hv : VOk ns) (t : Int) (s v : ByteArray) (hl : s.size ≤ 9223372036854775807) (hlv : v.size ≤ 9223372036854775807) :
    Calls Try.prog 36 #[.pointer (some ⟨pb, 0, none⟩), .int .i64 t, .string s, .string v] w fun e w' => e = .returned (.int .i64 (vSet ns t s v).1) ∧ GVEnd w pb F (vSet ns t s v).2 es given w' := by
  have h0 := h
  have hu := hv.up
  have hn := hv.len
  cases hs : namedB s with
  | false =>
    obtain ⟨rs, hg, rfl⟩ := h
    have e : vSet (rs.map Rn.tell) t s v = (2, rs.map Rn.tell) := by simp [vSet, hs]
    rw [e]
    exact (gset_name hg (by rw [← tell_ids]; exact hu) (by rw [← List.length_map (f := Rn.tell)]; omega) t s v hl hs).mono fun e w' ⟨he, f⟩ => ⟨he, GVEnd.quiet h0 f⟩
  | true =>
  cases hsv : namedB v with
  | false =>
    obtain ⟨rs, hg, rfl⟩ := h
    have e : vSet (rs.map Rn.tell) t s v = (2, rs.map Rn.tell) := by simp [vSet, hsv]
    rw [e]
    exact (gset_value hg (by rw [← tell_ids]; exact hu) (by rw [← List.length_map (f := Rn.tell)]; omega) t s v hl hs hlv hsv).mono fun e w' ⟨he, f⟩ => ⟨he, GVEnd.quiet h0 f⟩
  | true =>
  by_cases hm : t ∈ ns.map (·.1)
  · obtain ⟨A, n, B, rfl, hA, rfl⟩ := v_split hu hm
    obtain ⟨rs, hg, hrs⟩ := h
    obtain ⟨A', r, B', rfl, rfl, rfl, rfl⟩ := rn_split hrs
    have hu' : Up (((A' ++ r :: B').map (·.nd)).map (·.id)) := by rw [← tell_ids, hrs]; exact hu
    have hn' : (A' ++ r :: B').length ≤ 1000000 := by rw [← List.length_map (f := Rn.tell), hrs]; omega
    rw [vSet_mid hu s v hs hsv]
    have hr := hv.ps r.tell (by simp)
    cases hq : memS s (r.ps.map (·.name)) with
    | true =>
      rw [if_pos (show memS s (r.tell.2.2.map (·.name)) = true from hq)]
      refine (gset_has hg hu' hn' s v hl hs hlv hsv hr.1 hq).mono ?_
      rintro e w' ⟨he, r', F', hr', a1, a2, a3⟩
      exact ⟨he, F', ⟨_, a1, by rw [List.map_append, List.map_cons, hr']; rfl⟩, a2, a3⟩
    | false =>
      rw [if_neg (show ¬ memS s (r.tell.2.2.map (·.name)) = true by simpa [Rn.tell] using hq)]
      by_cases h8 : 8 ≤ r.ps.length
      · rw [if_pos (show 8 ≤ r.tell.2.2.length from h8)]
        exact (gset_full hg hu' hn' s v hl hs hlv hsv hr.1 hq h8).mono fun e w' ⟨he, f⟩ => ⟨he, GVEnd.quiet h0 f⟩
      · rw [if_neg (show ¬ 8 ≤ r.tell.2.2.length from h8)]
        refine (gset_ins hg hu' hn' s v hl hs hlv hsv hr.1 hq (by omega)).mono ?_
        rintro e w' ⟨he, r', F', hr', a1, a2, a3⟩
        exact ⟨he, F', ⟨_, a1, by rw [List.map_append, List.map_cons, hr']; rfl⟩, a2, a3⟩
  · obtain ⟨rs, hg, rfl⟩ := h
    have e : vSet (rs.map Rn.tell) t s v = (7, rs.map Rn.tell) := by unfold vSet; rw [if_neg (by simp [hs, hsv]), if_pos hm]
    rw [e]
    exact (gset_none hg (by rw [← tell_ids]; exact hu) (by rw [← List.length_map (f := Rn.tell)]; omega) t s v hl hs hlv hsv (by rw [← tell_ids]; exact hm)).mono fun e w' ⟨he, f⟩ => ⟨he, GVEnd.quiet h0 f⟩
end

theorem VOk.change {A B : List Nv} {n n' : Nv} (h : VOk (A ++ n :: B)) (h1 : n'.1 = n.1) (h2 : UpS n'.2.1 ∧ n'.2.1.length ≤ 8) (h3 : UpS (n'.2.2.map (·.name)) ∧ n'.2.2.length ≤ 8) : VOk (A ++ n' :: B) := by
  obtain ⟨a, b, c, d⟩ := h
  refine ⟨by simpa [h1] using a, by simpa using b, fun x hx => ?_, fun x hx => ?_⟩
  · rcases List.mem_append.1 hx with hx | hx
    · exact c x (by simp [hx])
    · rcases List.mem_cons.1 hx with rfl | hx
      · exact h2
      · exact c x (by simp [hx])
  · rcases List.mem_append.1 hx with hx | hx
    · exact d x (by simp [hx])
    · rcases List.mem_cons.1 hx with rfl | hx
      · exact h3
      · exact d x (by simp [hx])
theorem VOk.label {ns : List Nv} (h : VOk ns) (t : Int) (s : ByteArray) : VOk (vLabel ns t s).2 := by
  cases hs : namedB s with
  | false => simpa [vLabel, hs] using h
  | true =>
    by_cases hm : t ∈ ns.map (·.1)
    · obtain ⟨A, n, B, rfl, hA, rfl⟩ := v_split h.up hm
      rw [vLabel_mid h.up s hs]
      cases hq : memS s n.2.1 with
      | true => exact h
      | false =>
        by_cases h8 : 8 ≤ n.2.1.length
        · rw [if_neg (by simp), if_pos h8]; exact h
        · rw [if_neg (by simp), if_neg h8]
          have hn := h.ls n (by simp)
          exact h.change rfl ⟨upS_ins hn.1 (memS_not.1 hq), by have := rankS_le n.2.1 s; simp; omega⟩ (h.ps n (by simp))
    · have e : vLabel ns t s = (7, ns) := by unfold vLabel; rw [if_neg (by simp [hs]), if_pos hm]
      rw [e]; exact h
theorem VOk.set {ns : List Nv} (h : VOk ns) (t : Int) (s v : ByteArray) : VOk (vSet ns t s v).2 := by
  by_cases hs : namedB s = false ∨ namedB v = false
  · simpa [vSet, hs] using h
  · have hs1 : namedB s = true := by cases h1 : namedB s <;> simp [h1] at hs ⊢
    have hs2 : namedB v = true := by cases h1 : namedB v <;> simp [h1] at hs ⊢
    by_cases hm : t ∈ ns.map (·.1)
    · obtain ⟨A, n, B, rfl, hA, rfl⟩ := v_split h.up hm
      rw [vSet_mid h.up s v hs1 hs2]
      have hn := h.ps n (by simp)
      cases hq : memS s (n.2.2.map (·.name)) with
      | true =>
        rw [if_pos rfl]
        have hkm := rankS_mem (t := s) (rankS_le (n.2.2.map (·.name)) s) (rankS_lt hn.1).1 hn.1 (rankS_lt hn.1).2
        rw [hq] at hkm
        have hks : (n.2.2.map (·.name))[rankS (n.2.2.map (·.name)) s]? = some s := by simpa using hkm.symm
        have hkl : rankS (n.2.2.map (·.name)) s < n.2.2.length := by simpa using (List.getElem?_eq_some_iff.1 hks).1
        generalize rankS (n.2.2.map (·.name)) s = k at *
        have hnm : n.2.2[k].name = s := by
          rw [List.getElem?_map, List.getElem?_eq_getElem hkl] at hks
          simpa using hks
        have he : (n.2.2.take k ++ (⟨s, v⟩ : Pr) :: n.2.2.drop (k + 1)).map (·.name) = n.2.2.map (·.name) := by
          rw [List.map_append, List.map_cons, List.map_take, List.map_drop]
          have hk' : k < (n.2.2.map (·.name)).length := by simpa using hkl
          have : (n.2.2.map (·.name))[k] = s := by simpa using hnm
          rw [← this, List.getElem_cons_drop, List.take_append_drop]
        exact h.change rfl (h.ls n (by simp)) ⟨by rw [he]; exact hn.1, by rw [← List.length_map (f := (·.name)), he, List.length_map]; exact hn.2⟩
      | false =>
        by_cases h8 : 8 ≤ n.2.2.length
        · rw [if_neg (by simp), if_pos h8]; exact h
        · rw [if_neg (by simp), if_neg h8]
          refine h.change rfl (h.ls n (by simp)) ⟨?_, by have := rankS_le (n.2.2.map (·.name)) s; simp at this ⊢; omega⟩
          have := upS_ins (t := s) hn.1 (memS_not.1 hq)
          simpa using this
    · have e : vSet ns t s v = (7, ns) := by unfold vSet; rw [if_neg hs, if_pos hm]
      rw [e]; exact h
theorem VOk.addNode {ns : List Nv} (h : VOk ns) (t : Int) : VOk (vAddNode ns t).2 := by
  unfold vAddNode
  split
  · exact h
  · split
    · exact h
    · split
      · exact h
      · rename_i q1 q2 q3
        obtain ⟨a, b, c, d⟩ := h
        have hr := rank_le (ns.map (·.1)) t
        rw [List.length_map] at hr
        refine ⟨?_, by simp; omega, fun x hx => ?_, fun x hx => ?_⟩
        · have := up_ins a q2
          simpa using this
        · rcases List.mem_append.1 hx with hx | hx
          · exact c x (List.mem_of_mem_take hx)
          · rcases List.mem_cons.1 hx with rfl | hx
            · simp [UpS]
            · exact c x (List.mem_of_mem_drop hx)
        · rcases List.mem_append.1 hx with hx | hx
          · exact d x (List.mem_of_mem_take hx)
          · rcases List.mem_cons.1 hx with rfl | hx
            · simp [UpS]
            · exact d x (List.mem_of_mem_drop hx)
theorem VOk.sub {ns ns' : List Nv} (h : VOk ns) (hs : ns'.Sublist ns) : VOk ns' :=
  ⟨h.up.sublist (hs.map _), Nat.le_trans hs.length_le h.len, fun x hx => h.ls x (hs.subset hx), fun x hx => h.ps x (hs.subset hx)⟩
theorem VOk.dropNode {ns : List Nv} (h : VOk ns) (es : List Ed) (t : Int) : VOk (vDropNode ns es t).2 := by
  unfold vDropNode
  split
  · exact h
  · split
    · exact h
    · exact h.sub (List.eraseIdx_sublist _ _)
end Go.Proofs.Ytjcajidgaejhoaa

