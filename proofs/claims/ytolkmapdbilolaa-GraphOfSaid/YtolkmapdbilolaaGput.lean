/- One node of a graph is written anew. -/
import Derived.Test.YtolkmapdbilolaaGG
namespace Go.Proofs.Ytolkmapdbilolaa
open Go.RowKit
set_option linter.unusedSimpArgs false
set_option linter.unusedVariables false

theorem RowAt.put {α : Type} {w : World} {b T sz n cap : Nat} {enc : α → List Value} {A B : List α} {x y : α} {j : Nat} {u : Value} (h : RowAt w b T sz n cap ((A ++ x :: B).flatMap enc)) (hsz : ∀ x, (enc x).length = sz) (hj : j < sz) (hy : enc y = (enc x).set j u) :
    RowAt (w.setCell ⟨b, A.length * sz + j, none⟩ u) b T sz n cap ((A ++ y :: B).flatMap enc) := by
  obtain ⟨cs, h1, h2, h3, h4, h5⟩ := h.blk
  refine RowAt.of_blk (h1.set _ u) h2 h3 (by simpa using h4) ?_
  rw [Array.toList_setIfInBounds, List.take_set, h5]
  have hl : (A.flatMap enc).length = A.length * sz := flat_len hsz A
  rw [List.flatMap_append, List.flatMap_cons, List.flatMap_append, List.flatMap_cons, hy]
  rw [List.set_append_right _ _ (by omega), hl, Nat.add_sub_cancel_left, List.set_append_left _ _ (by rw [hsz]; exact hj)]
theorem Sl.row {α : Type} {w : World} {e sz : Nat} {enc : α → List Value} {v : Value} {A B : List α} {x : α} {G : List Nat} (h : Sl w e sz enc v (A ++ x :: B) G) : ∃ b cap, v = .slice (some ⟨b, 0, none⟩) (A ++ x :: B).length cap ∧ G = [b] ∧ RowAt w b e sz (A ++ x :: B).length cap ((A ++ x :: B).flatMap enc) := by
  rcases h with ⟨_, h, _⟩ | h
  · simp at h
  · exact h

section
variable {w w' : World} {pb : Nat} {A B : List Rn} {r r' : Rn} {es : List Ed} {given : Int}
/-- What is behind the object: the nodes' row is in block b. -/
structure Parts (w : World) (pb b nc : Nat) (ae : Option Addr) (ec : Nat) (H : List Nat) (A : List Rn) (r : Rn) (B : List Rn) (es : List Ed) (given : Int) : Prop where
  obj : Blk w pb 59 #[.slice (some ⟨b, 0, none⟩) (A ++ r :: B).length nc, .slice ae es.length ec, .int .i64 given]
  row : RowAt w b 86 3 (A ++ r :: B).length nc (((A ++ r :: B).map (·.nd)).flatMap Nd.cs)
  edges : Sl w 49 4 Ed.cs (.slice ae es.length ec) es H
  ok : ∀ x ∈ A ++ r :: B, x.ok w
  nd : ((pb :: ([b] ++ H)) ++ (A ++ r :: B).flatMap Rn.bl).Nodup
theorem GG.parts {F : List Nat} (h : GG w pb F (A ++ r :: B) es given) : ∃ b nc ae ec H, Parts w pb b nc ae ec H A r B es given ∧ F = (pb :: ([b] ++ H)) ++ (A ++ r :: B).flatMap Rn.bl := by
  obtain ⟨FG, ⟨an, nc, ae, ec, G, H, hb, sn, se, n1, n2, n3, rfl⟩, h2, h3, rfl⟩ := h
  rw [List.map_append, List.map_cons] at sn
  obtain ⟨b, nc', hv, hG, hr⟩ := sn.row
  injection hv with hv1 hv2 hv3
  subst hG hv1 hv3
  have hl : (A.map (·.nd) ++ r.nd :: B.map (·.nd)).length = (A ++ r :: B).length := by simp
  rw [hl] at hr
  rw [List.length_map] at hb
  exact ⟨b, nc, ae, ec, H, ⟨hb, by simpa using hr, se, h2, h3⟩, rfl⟩
theorem Parts.disj {b nc : Nat} {ae : Option Addr} {ec : Nat} {H : List Nat} (h : Parts w pb b nc ae ec H A r B es given) :
    pb ≠ b ∧ pb ∉ H ∧ b ∉ H ∧ (∀ x ∈ A ++ r :: B, pb ∉ x.bl ∧ b ∉ x.bl ∧ ∀ y ∈ H, y ∉ x.bl) ∧ (∀ x, x ∈ A ∨ x ∈ B → ∀ y ∈ r.bl, y ∉ x.bl) ∧ H.Nodup ∧ (A.flatMap Rn.bl ++ B.flatMap Rn.bl).Nodup ∧ r.bl.Nodup := by
  obtain ⟨n1, n2, n3⟩ := List.nodup_append.1 h.nd
  have n4 := List.nodup_cons.1 n1
  obtain ⟨n5, n6, n7⟩ := List.nodup_append.1 n4.2
  rw [List.flatMap_append, List.flatMap_cons] at n2
  obtain ⟨m1, m2, m3⟩ := List.nodup_append.1 n2
  obtain ⟨m4, m5, m6⟩ := List.nodup_append.1 m2
  refine ⟨fun e => n4.1 (by simp [e]), fun e => n4.1 (by simp [e]), fun e => n7 b (by simp) b e rfl, fun x hx => ⟨fun e => n3 pb (by simp) pb (List.mem_flatMap.2 ⟨x, hx, e⟩) rfl, fun e => n3 b (by simp) b (List.mem_flatMap.2 ⟨x, hx, e⟩) rfl, fun y hy e => n3 y (by simp [hy]) y (List.mem_flatMap.2 ⟨x, hx, e⟩) rfl⟩, fun x hx y hy e => ?_, n6, List.nodup_append.2 ⟨m1, m5, fun x hx y hy => m3 x hx y (by simp [List.mem_append]; exact .inr (List.mem_flatMap.1 hy))⟩, m4⟩
  rcases hx with hx | hx
  · exact m3 y (List.mem_flatMap.2 ⟨x, hx, e⟩) y (by simp [hy]) rfl
  · exact m6 y hy y (List.mem_flatMap.2 ⟨x, hx, e⟩) rfl
/-- One node, and what it leads to, is written. -/
theorem Parts.put {b nc : Nat} {ae : Option Addr} {ec : Nat} {H : List Nat} (h : Parts w pb b nc ae ec H A r B es given) (fr : Frame (b :: r.bl) w w')
    (hrow : RowAt w' b 86 3 (A ++ r :: B).length nc (((A ++ r' :: B).map (·.nd)).flatMap Nd.cs)) (hok : r'.ok w') (hbl : ∀ x ∈ r'.bl, x ∈ r.bl ∨ w.heap.size ≤ x) (hnd : r'.bl.Nodup) :
    ∃ F', GG w' pb F' (A ++ r' :: B) es given ∧ Frame ((pb :: ([b] ++ H)) ++ (A ++ r :: B).flatMap Rn.bl) w w' ∧ ∀ x ∈ F', x ∈ (pb :: ([b] ++ H)) ++ (A ++ r :: B).flatMap Rn.bl ∨ w.heap.size ≤ x := by
  obtain ⟨d1, d2, d3, d4, d5, d6, d7, d8⟩ := h.disj
  have hl : (A ++ r' :: B).length = (A ++ r :: B).length := by simp
  have dr := d4 r (by simp)
  have hlo : ∀ x ∈ A ++ r :: B, ∀ y ∈ x.bl, y < w.heap.size := fun x hx y hy => Rn.ok_lt (h.ok x hx) y hy
  have hF : ∀ x ∈ (pb :: ([b] ++ H)) ++ (A ++ r' :: B).flatMap Rn.bl, x ∈ (pb :: ([b] ++ H)) ++ (A ++ r :: B).flatMap Rn.bl ∨ w.heap.size ≤ x := by
    intro x hx
    rcases List.mem_append.1 hx with hx | hx
    · exact .inl (List.mem_append.2 (.inl hx))
    · rw [List.flatMap_append, List.flatMap_cons] at hx
      rcases List.mem_append.1 hx with hx | hx
      · exact .inl (by rw [List.flatMap_append]; simp only [List.mem_append]; exact .inr (.inl hx))
      · rcases List.mem_append.1 hx with hx | hx
        · rcases hbl x hx with hx | hx
          · exact .inl (by rw [List.flatMap_append, List.flatMap_cons]; simp only [List.mem_append]; exact .inr (.inr (.inl hx)))
          · exact .inr hx
        · exact .inl (by rw [List.flatMap_append, List.flatMap_cons]; simp only [List.mem_append]; exact .inr (.inr (.inr hx)))
  refine ⟨(pb :: ([b] ++ H)) ++ (A ++ r' :: B).flatMap Rn.bl, ⟨pb :: ([b] ++ H), ⟨some ⟨b, 0, none⟩, nc, ae, ec, [b], H, ?_, ?_, ?_, by simpa using d1, d2, by simpa using d3, rfl⟩, ?_, ?_, rfl⟩, fr.mono ?_, hF⟩
  · rw [List.length_map, hl]
    exact h.obj.frame fr (by simp; exact ⟨d1, dr.1⟩)
  · refine .inr ⟨b, nc, rfl, rfl, ?_⟩
    rw [List.length_map, hl]; exact hrow
  · exact h.edges.frame fr (fun x hx hm => by
      simp at hm
      rcases hm with hm | hm
      · exact d3 (hm ▸ hx)
      · exact dr.2.2 x hx hm)
  · intro x hx
    have keep : ∀ x, x ∈ A ∨ x ∈ B → x.ok w' := fun x hx => by
      have hxm : x ∈ A ++ r :: B := by rcases hx with hx | hx <;> simp [hx]
      refine Rn.ok_frame (h.ok x hxm) fr (fun y hy hm => ?_)
      simp at hm
      rcases hm with hm | hm
      · exact (d4 x hxm).2.1 (hm ▸ hy)
      · exact d5 x hx y hm hy
    rcases List.mem_append.1 hx with hx | hx
    · exact keep x (.inl hx)
    · rcases List.mem_cons.1 hx with rfl | hx
      · exact hok
      · exact keep x (.inr hx)
  · have hb := h.obj.lt
    have hb2 := h.row.lt
    have hb3 := h.edges.lt
    obtain ⟨m1, m2, m3⟩ := List.nodup_append.1 d7
    have out : ∀ y ∈ r'.bl, y ≠ pb ∧ y ≠ b ∧ y ∉ H ∧ ∀ x, x ∈ A ∨ x ∈ B → y ∉ x.bl := fun y hy => by
      rcases hbl y hy with hy | hy
      · exact ⟨fun e => dr.1 (e ▸ hy), fun e => dr.2.1 (e ▸ hy), fun e => dr.2.2 y e hy, fun x hx e => d5 x hx y hy e⟩
      · exact ⟨by omega, by omega, fun e => by have := hb3 y e; omega, fun x hx e => by
          have := hlo x (by rcases hx with hx | hx <;> simp [hx]) y e; omega⟩
    rw [List.flatMap_append, List.flatMap_cons]
    refine List.nodup_append.2 ⟨List.nodup_cons.2 ⟨by simp [d1, d2], List.nodup_append.2 ⟨by simp, d6, fun x hx y hy e => by simp at hx; subst hx; subst e; exact d3 hy⟩⟩, List.nodup_append.2 ⟨m1, List.nodup_append.2 ⟨hnd, m2, fun x hx y hy e => ?_⟩, fun x hx y hy e => ?_⟩, fun x hx y hy e => ?_⟩
    · subst e
      obtain ⟨z, hz, hy⟩ := List.mem_flatMap.1 hy
      exact (out x hx).2.2.2 z (.inr hz) hy
    · subst e
      obtain ⟨z, hz, hx⟩ := List.mem_flatMap.1 hx
      rcases List.mem_append.1 hy with hy | hy
      · exact (out x hy).2.2.2 z (.inl hz) hx
      · exact m3 x (List.mem_flatMap.2 ⟨z, hz, hx⟩) x hy rfl
    · subst e
      have key : ∀ z, z ∈ A ∨ z ∈ B → x ∈ z.bl → False := fun z hz hxz => by
        have hzm : z ∈ A ++ r :: B := by rcases hz with hz | hz <;> simp [hz]
        have dz := d4 z hzm
        simp only [List.mem_cons, List.mem_append, List.mem_singleton, List.mem_nil_iff, or_false] at hx
        rcases hx with hx | hx | hx
        · exact dz.1 (hx ▸ hxz)
        · exact dz.2.1 (hx ▸ hxz)
        · exact dz.2.2 x hx hxz
      rcases List.mem_append.1 hy with hy | hy
      · obtain ⟨z, hz, hy⟩ := List.mem_flatMap.1 hy
        exact key z (.inl hz) hy
      · rcases List.mem_append.1 hy with hy | hy
        · have o := out x hy
          simp only [List.mem_cons, List.mem_append, List.mem_singleton, List.mem_nil_iff, or_false] at hx
          rcases hx with hx | hx | hx
          · exact o.1 hx
          · exact o.2.1 hx
          · exact o.2.2.1 hx
        · obtain ⟨z, hz, hy⟩ := List.mem_flatMap.1 hy
          exact key z (.inr hz) hy
  · intro x hx
    left
    simp only [List.mem_cons] at hx
    rcases hx with rfl | hx
    · simp
    · rw [List.flatMap_append, List.flatMap_cons]; simp only [List.mem_append]; exact .inr (.inr (.inl hx))
end
end Go.Proofs.Ytolkmapdbilolaa
