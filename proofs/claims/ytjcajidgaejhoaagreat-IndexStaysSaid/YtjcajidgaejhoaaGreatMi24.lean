/- One node of a graph is written anew. Binary search over texts, and over properties by name. A graph's calls: Label. -/
import Derived.Test.YtjcajidgaejhoaaGreatMi14
import Derived.Test.YtjcajidgaejhoaaGreatMi13
namespace Go.Proofs.YtjcajidgaejhoaaGreat
open Go.RowKit
set_option linter.unusedSimpArgs false
set_option linter.unusedVariables false

theorem RowAt.put {α : Type} {w : World} {b T sz n cap : Nat} {enc : α → List Value} {A B : List α} {x y : α} {j : Nat} {u : Value} (h : RowAt w b T sz n cap ((A ++ x :: B).flatMap enc)) (hsz : ∀ x, (enc x).length = sz) (hj : j < sz) (hy : enc y = (enc x).set j u) :
    RowAt (w.setCell ⟨b, A.length * sz + j, none⟩ u) b T sz n cap ((A ++ y :: B).flatMap enc) := by
  obtain ⟨cs, h1, h2, h3, h4, h5⟩ := h.blk
  refine RowAt.of_blk (h1.set _ u) h2 h3 (by simpa using h4) ?_
  rw [Array.toList_setIfInBounds, List.take_set, h5]
  have hl : (A.flatMap enc).length = A.length * sz := flat_len hsz A
  rw [List.flatMap_append, List.flatMap_cons, List.flatMap_append, List.flatMap_cons, hy]
  rw [List.set_append_right _ _ (by omega), hl, Nat.add_sub_cancel_left, List.set_append_left _ _ (by rw [hsz]; exact hj)]
theorem Sl.row {α : Type} {w : World} {e sz : Nat} {enc : α → List Value} {v : Value} {A B : List α} {x : α} {G : List Nat} (h : Sl w e sz enc v (A ++ x :: B) G) : ∃ b cap, v = .slice (some ⟨b, 0, none⟩) (A ++ x :: B).length cap ∧ G = [b] ∧ RowAt w b e sz (A ++ x :: B).length cap ((A ++ x :: B).flatMap enc) := by
  rcases h with ⟨_, h, _⟩ | h
  · simp at h
  · exact h

section
variable {w w' : World} {pb : Nat} {A B : List Rn} {r r' : Rn} {es : List Ed} {given : Int}
/-- What is behind the object: the nodes' row is in block b. -/
structure Parts (w : World) (pb b nc : Nat) (ae : Option Addr) (ec : Nat) (H : List Nat) (A : List Rn) (r : Rn) (B : List Rn) (es : List Ed) (given : Int) : Prop where
  obj : Blk w pb 89 #[.slice (some ⟨b, 0, none⟩) (A ++ r :: B).length nc, .slice ae es.length ec, .int .i64 given]
  row : RowAt w b 41 3 (A ++ r :: B).length nc (((A ++ r :: B).map (·.nd)).flatMap Nd.cs)
  edges : Sl w 44 4 Ed.cs (.slice ae es.length ec) es H
  ok : ∀ x ∈ A ++ r :: B, x.ok w
  nd : ((pb :: ([b] ++ H)) ++ (A ++ r :: B).flatMap Rn.bl).Nodup
theorem GG.parts {F : List Nat} (h : GG w pb F (A ++ r :: B) es given) : ∃ b nc ae ec H, Parts w pb b nc ae ec H A r B es given ∧ F = (pb :: ([b] ++ H)) ++ (A ++ r :: B).flatMap Rn.bl := by
  obtain ⟨FG, ⟨an, nc, ae, ec, G, H, hb, sn, se, n1, n2, n3, rfl⟩, h2, h3, rfl⟩ := h
  rw [List.map_append, List.map_cons] at sn
  obtain ⟨b, nc', hv, hG, hr⟩ := sn.row
  injection hv with hv1 hv2 hv3
  subst hG hv1 hv3
  have hl : (A.map (·.nd) ++ r.nd :: B.map (·.nd)).length = (A ++ r :: B).length := by simp
  rw [hl] at hr
  rw [List.length_map] at hb
  exact ⟨b, nc, ae, ec, H, ⟨hb, by simpa using hr, se, h2, h3⟩, rfl⟩
theorem Parts.disj {b nc : Nat} {ae : Option Addr} {ec : Nat} {H : List Nat} (h : Parts w pb b nc ae ec H A r B es given) :
    pb ≠ b ∧ pb ∉ H ∧ b ∉ H ∧ (∀ x ∈ A ++ r :: B, pb ∉ x.bl ∧ b ∉ x.bl ∧ ∀ y ∈ H, y ∉ x.bl) ∧ (∀ x, x ∈ A ∨ x ∈ B → ∀ y ∈ r.bl, y ∉ x.bl) ∧ H.Nodup ∧ (A.flatMap Rn.bl ++ B.flatMap Rn.bl).Nodup ∧ r.bl.Nodup := by
  obtain ⟨n1, n2, n3⟩ := List.nodup_append.1 h.nd
  have n4 := List.nodup_cons.1 n1
  obtain ⟨n5, n6, n7⟩ := List.nodup_append.1 n4.2
  rw [List.flatMap_append, List.flatMap_cons] at n2
  obtain ⟨m1, m2, m3⟩ := List.nodup_append.1 n2
  obtain ⟨m4, m5, m6⟩ := List.nodup_append.1 m2
  refine ⟨fun e => n4.1 (by simp [e]), fun e => n4.1 (by simp [e]), fun e => n7 b (by simp) b e rfl, fun x hx => ⟨fun e => n3 pb (by simp) pb (List.mem_flatMap.2 ⟨x, hx, e⟩) rfl, fun e => n3 b (by simp) b (List.mem_flatMap.2 ⟨x, hx, e⟩) rfl, fun y hy e => n3 y (by simp [hy]) y (List.mem_flatMap.2 ⟨x, hx, e⟩) rfl⟩, fun x hx y hy e => ?_, n6, List.nodup_append.2 ⟨m1, m5, fun x hx y hy => m3 x hx y (by simp [List.mem_append]; exact .inr (List.mem_flatMap.1 hy))⟩, m4⟩
  rcases hx with hx | hx
  · exact m3 y (List.mem_flatMap.2 ⟨x, hx, e⟩) y (by simp [hy]) rfl
  · exact m6 y hy y (List.mem_flatMap.2 ⟨x, hx, e⟩) rfl
/-- One node, and what it leads to, is written. -/
theorem Parts.put {b nc : Nat} {ae : Option Addr} {ec : Nat} {H : List Nat} (h : Parts w pb b nc ae ec H A r B es given) (fr : Frame (b :: r.bl) w w')
    (hrow : RowAt w' b 41 3 (A ++ r :: B).length nc (((A ++ r' :: B).map (·.nd)).flatMap Nd.cs)) (hok : r'.ok w') (hbl : ∀ x ∈ r'.bl, x ∈ r.bl ∨ w.heap.size ≤ x) (hnd : r'.bl.Nodup) :
    ∃ F', GG w' pb F' (A ++ r' :: B) es given ∧ Frame ((pb :: ([b] ++ H)) ++ (A ++ r :: B).flatMap Rn.bl) w w' ∧ ∀ x ∈ F', x ∈ (pb :: ([b] ++ H)) ++ (A ++ r :: B).flatMap Rn.bl ∨ w.heap.size ≤ x := by
  obtain ⟨d1, d2, d3, d4, d5, d6, d7, d8⟩ := h.disj
  have hl : (A ++ r' :: B).length = (A ++ r :: B).length := by simp
  have dr := d4 r (by simp)
  have hlo : ∀ x ∈ A ++ r :: B, ∀ y ∈ x.bl, y < w.heap.size := fun x hx y hy => Rn.ok_lt (h.ok x hx) y hy
  have hF : ∀ x ∈ (pb :: ([b] ++ H)) ++ (A ++ r' :: B).flatMap Rn.bl, x ∈ (pb :: ([b] ++ H)) ++ (A ++ r :: B).flatMap Rn.bl ∨ w.heap.size ≤ x := by
    intro x hx
    rcases List.mem_append.1 hx with hx | hx
    · exact .inl (List.mem_append.2 (.inl hx))
    · rw [List.flatMap_append, List.flatMap_cons] at hx
      rcases List.mem_append.1 hx with hx | hx
      · exact .inl (by rw [List.flatMap_append]; simp only [List.mem_append]; exact .inr (.inl hx))
      · rcases List.mem_append.1 hx with hx | hx
        · rcases hbl x hx with hx | hx
          · exact .inl (by rw [List.flatMap_append, List.flatMap_cons]; simp only [List.mem_append]; exact .inr (.inr (.inl hx)))
          · exact .inr hx
        · exact .inl (by rw [List.flatMap_append, List.flatMap_cons]; simp only [List.mem_append]; exact .inr (.inr (.inr hx)))
  refine ⟨(pb :: ([b] ++ H)) ++ (A ++ r' :: B).flatMap Rn.bl, ⟨pb :: ([b] ++ H), ⟨some ⟨b, 0, none⟩, nc, ae, ec, [b], H, ?_, ?_, ?_, by simpa using d1, d2, by simpa using d3, rfl⟩, ?_, ?_, rfl⟩, fr.mono ?_, hF⟩
  · rw [List.length_map, hl]
    exact h.obj.frame fr (by simp; exact ⟨d1, dr.1⟩)
  · refine .inr ⟨b, nc, rfl, rfl, ?_⟩
    rw [List.length_map, hl]; exact hrow
  · exact h.edges.frame fr (fun x hx hm => by
      simp at hm
      rcases hm with hm | hm
      · exact d3 (hm ▸ hx)
      · exact dr.2.2 x hx hm)
  · intro x hx
    have keep : ∀ x, x ∈ A ∨ x ∈ B → x.ok w' := fun x hx => by
      have hxm : x ∈ A ++ r :: B := by rcases hx with hx | hx <;> simp [hx]
      refine Rn.ok_frame (h.ok x hxm) fr (fun y hy hm => ?_)
      simp at hm
      rcases hm with hm | hm
      · exact (d4 x hxm).2.1 (hm ▸ hy)
      · exact d5 x hx y hm hy
    rcases List.mem_append.1 hx with hx | hx
    · exact keep x (.inl hx)
    · rcases List.mem_cons.1 hx with rfl | hx
      · exact hok
      · exact keep x (.inr hx)
  · have hb := h.obj.lt
    have hb2 := h.row.lt
    have hb3 := h.edges.lt
    obtain ⟨m1, m2, m3⟩ := List.nodup_append.1 d7
    have out : ∀ y ∈ r'.bl, y ≠ pb ∧ y ≠ b ∧ y ∉ H ∧ ∀ x, x ∈ A ∨ x ∈ B → y ∉ x.bl := fun y hy => by
      rcases hbl y hy with hy | hy
      · exact ⟨fun e => dr.1 (e ▸ hy), fun e => dr.2.1 (e ▸ hy), fun e => dr.2.2 y e hy, fun x hx e => d5 x hx y hy e⟩
      · exact ⟨by omega, by omega, fun e => by have := hb3 y e; omega, fun x hx e => by
          have := hlo x (by rcases hx with hx | hx <;> simp [hx]) y e; omega⟩
    rw [List.flatMap_append, List.flatMap_cons]
    refine List.nodup_append.2 ⟨List.nodup_cons.2 ⟨by simp [d1, d2], List.nodup_append.2 ⟨by simp, d6, fun x hx y hy e => by simp at hx; subst hx; subst e; exact d3 hy⟩⟩, List.nodup_append.2 ⟨m1, List.nodup_append.2 ⟨hnd, m2, fun x hx y hy e => ?_⟩, fun x hx y hy e => ?_⟩, fun x hx y hy e => ?_⟩
    · subst e
      obtain ⟨z, hz, hy⟩ := List.mem_flatMap.1 hy
      exact (out x hx).2.2.2 z (.inr hz) hy
    · subst e
      obtain ⟨z, hz, hx⟩ := List.mem_flatMap.1 hx
      rcases List.mem_append.1 hy with hy | hy
      · exact (out x hy).2.2.2 z (.inl hz) hx
      · exact m3 x (List.mem_flatMap.2 ⟨z, hz, hx⟩) x hy rfl
    · subst e
      have key : ∀ z, z ∈ A ∨ z ∈ B → x ∈ z.bl → False := fun z hz hxz => by
        have hzm : z ∈ A ++ r :: B := by rcases hz with hz | hz <;> simp [hz]
        have dz := d4 z hzm
        simp only [List.mem_cons, List.mem_append, List.mem_singleton, List.mem_nil_iff, or_false] at hx
        rcases hx with hx | hx | hx
        · exact dz.1 (hx ▸ hxz)
        · exact dz.2.1 (hx ▸ hxz)
        · exact dz.2.2 x hx hxz
      rcases List.mem_append.1 hy with hy | hy
      · obtain ⟨z, hz, hy⟩ := List.mem_flatMap.1 hy
        exact key z (.inl hz) hy
      · rcases List.mem_append.1 hy with hy | hy
        · have o := out x hy
          simp only [List.mem_cons, List.mem_append, List.mem_singleton, List.mem_nil_iff, or_false] at hx
          rcases hx with hx | hx | hx
          · exact o.1 hx
          · exact o.2.1 hx
          · exact o.2.2.1 hx
        · obtain ⟨z, hz, hy⟩ := List.mem_flatMap.1 hy
          exact key z (.inr hz) hy
  · intro x hx
    left
    simp only [List.mem_cons] at hx
    rcases hx with rfl | hx
    · simp
    · rw [List.flatMap_append, List.flatMap_cons]; simp only [List.mem_append]; exact .inr (.inr (.inl hx))
end
end Go.Proofs.YtjcajidgaejhoaaGreat

namespace Go.Proofs.YtjcajidgaejhoaaGreat
open Go.RowKit
set_option linter.unusedSimpArgs false
set_option linter.unusedVariables false

set_option maxHeartbeats 1000000 in
set_option maxRecDepth 100000 in
theorem bs_str (a : Option Addr) (cap : Nat) (xs : List ByteArray) (G : List Nat) (t : ByteArray) (w : World) (h : Sl w 9 1 encS (.slice a xs.length cap) xs G) (hu : UpS (xs)) (hn : xs.length ≤ 1073741824) :
    Calls Tryz.prog 54 #[.slice a xs.length cap, .string t] w fun e w' => e = .returned (.tuple #[.int .i64 (rankS (xs) t), .bool (memS t (xs))]) ∧ Frame [] w w' := by
  have S := Lib.hid h
  have U := Lib.hid hu
  clear h hu
  generalize hr : rankS (xs) t = r
  generalize hd : memS t (xs) = d
  have HR := Lib.hid hr
  have HD := Lib.hid hd
  clear hr hd
  go_enter Tryz.func54, Tryz.ntmps54
  go_wp2_with fail
  go_loopw [7, 8] (fun u v wr => ∃ lo hi : Nat, u = .int .i64 lo ∧ v = .int .i64 hi ∧ lo ≤ hi ∧ hi ≤ xs.length ∧ Frame [] w wr ∧ Hid ((∀ i (h : i < xs.length), i < lo → ltS xs[i] t = true) ∧ (∀ i (h : i < xs.length), hi ≤ i → ltS xs[i] t = false))) (fun u v _ => (intOf v).toNat - (intOf u).toNat)
  case atStart => exact ⟨0, xs.length, rfl, rfl, Nat.zero_le _, Nat.le_refl _, Frame.refl _ _, fun i h hi => absurd hi (Nat.not_lt_zero _), fun i h hi => by omega⟩
  case round =>
    obtain ⟨lo, hi, rfl, rfl, hlh, hin, hf, hI⟩ := hrel
    have s2 := S.out.frame0 hf
    by_cases hlt : lo < hi
    · have hm : (lo + hi) / 2 < xs.length := by omega
      have hx : xs[(lo + hi) / 2]? = some xs[(lo + hi) / 2] := by simp [hm]
      obtain ⟨b9, c9, e9, _, _, hc⟩ := s2.cell encS_len hx
      injection e9 with e9 _ e92
      subst e9 e92
      have q0 := hc 0 _ rfl
      simp only [Nat.add_zero] at q0
      simp only [Nat.mul_one] at q0
      have hcmp := fun w => less_str xs[(lo + hi) / 2] t w
      have hmono : ∀ i (h : i < xs.length), i ≤ (lo + hi) / 2 → ltS xs[(lo + hi) / 2] xs[i] = false := by
        intro i h hle
        rcases Nat.lt_or_ge i ((lo + hi) / 2) with q | q
        · have := (List.pairwise_iff_getElem.1 U.out) i ((lo + hi) / 2) (by simpa using h) (by simpa using hm) q
          exact ltS_asymm (by simpa using this)
        · obtain rfl : i = (lo + hi) / 2 := by omega
          exact ltS_irrefl _
      have hmono2 : ∀ i (h : i < xs.length), (lo + hi) / 2 ≤ i → ltS xs[i] xs[(lo + hi) / 2] = false := by
        intro i h hle
        rcases Nat.lt_or_ge ((lo + hi) / 2) i with q | q
        · have := (List.pairwise_iff_getElem.1 U.out) ((lo + hi) / 2) i (by simpa using hm) (by simpa using h) q
          exact ltS_asymm (by simpa using this)
        · obtain rfl : i = (lo + hi) / 2 := by omega
          exact ltS_irrefl _
      have M1 := Lib.hid hmono
      have M2 := Lib.hid hmono2
      clear hmono hmono2 hx hc s2
      have HF := Lib.hid hf
      clear hf
      generalize hxx : xs[(lo + hi) / 2] = x at *
      have HX := Lib.hid hxx
      clear hxx
      have HC := Lib.hid hcmp
      clear hcmp
      cases hk : ltS x t with
      | true =>
        have KK := Lib.hid hk
        have K1 : Hid True := Lib.hid trivial
        clear hk
        go_wp2_with fail
        refine (HC.out _).mono ?_
        rintro e w3 ⟨rfl, rfl⟩
        rw [KK.out]
        go_wp2_with fail
        go_roundw
        case rel => exact ⟨(lo + hi) / 2 + 1, hi, by go_num, rfl, by omega, hin, HF.out, fun i h hi' => ltS_le_lt (M1.out i h (by omega)) KK.out, hI.out.2⟩
        case measure => simp [intOf]; omega
      | false =>
        have KK := Lib.hid hk
        have K1 : Hid True := Lib.hid trivial
        clear hk
        go_wp2_with fail
        refine (HC.out _).mono ?_
        rintro e w3 ⟨rfl, rfl⟩
        rw [KK.out]
        go_wp2_with fail
        go_roundw
        case rel => exact ⟨lo, (lo + hi) / 2, rfl, by go_num, by omega, by omega, HF.out, hI.out.1, fun i h hi' => ltS_le_ge (M2.out i h hi') KK.out⟩
        case measure => simp [intOf]; omega
    · obtain rfl : lo = hi := by omega
      have hr : rankS (xs) t = lo := rankS_of (by simpa using hin) (fun i h hi => by simpa using hI.out.1 i (by simpa using h) hi) (fun i h hi => by simpa using hI.out.2 i (by simpa using h) hi)
      have hme := rankS_mem (t := t) (r := lo) (by simpa using hin) (fun i h hi => by simpa using hI.out.1 i (by simpa using h) hi) U.out (fun i h hi => by simpa using hI.out.2 i (by simpa using h) hi)
      rw [HR.out] at hr
      rw [HD.out] at hme
      have hr2 := hr.symm
      clear hr
      subst hr2
      by_cases hl : lo < xs.length
      · have hx : xs[lo]? = some xs[lo] := by simp [hl]
        obtain ⟨b9, c9, e9, _, _, hc⟩ := s2.cell encS_len hx
        injection e9 with e9 _ e92
        subst e9 e92
        have q0 := hc 0 _ rfl
        simp only [Nat.add_zero] at q0
        simp only [Nat.mul_one] at q0
        have hcmp := fun w => less_str xs[lo] t w
        have hget : (xs)[lo]? = some xs[lo] := by simp [hl]
        rw [hget] at hme
        have HF := Lib.hid hf
        clear hx hc s2 hf hget
        generalize xs[lo] = x at *
        have HC := Lib.hid hcmp
        clear hcmp
        by_cases hk : x = t
        · have hd : decide (some x = some t) = true := by simp [hk]
          rw [hd] at hme
          subst hme
          subst hk
          have h1 : (x.toList == x.toList) = true := by simp
          clear hd
          go_wp2_with (go_at_call 80; refine (sisNaN_str _ _).mono ?_; rintro e w' ⟨rfl, rfl⟩)
          go_ret2
          exact ⟨rfl, HF.out⟩
        · have hd : decide (some x = some t) = false := by simp [hk]
          rw [hd] at hme
          subst hme
          have h1 := eqL_false hk
          clear hd hk
          go_wp2_with (go_at_call 80; refine (sisNaN_str _ _).mono ?_; rintro e w' ⟨rfl, rfl⟩)
          go_ret2
          exact ⟨rfl, HF.out⟩
      · have hd : decide ((xs)[lo]? = some t) = false := by rw [List.getElem?_eq_none (by first | omega | (simp; omega))]; simp
        rw [hd] at hme
        subst hme
        have HF := Lib.hid hf
        clear hd s2 hf
        go_wp2_with fail
        go_ret2
        exact ⟨rfl, HF.out⟩

set_option maxHeartbeats 1000000 in
set_option maxRecDepth 100000 in
theorem bsf_prop (a : Option Addr) (cap : Nat) (xs : List Pr) (G : List Nat) (t : ByteArray) (w : World) (h : Sl w 67 2 Pr.cs (.slice a xs.length cap) xs G) (hu : UpS (xs.map (·.name))) (hn : xs.length ≤ 1073741824) :
    Calls Tryz.prog 84 #[.slice a xs.length cap, .string t, .func (.func 85) #[] #[]] w fun e w' => e = .returned (.tuple #[.int .i64 (rankS (xs.map (·.name)) t), .bool (memS t (xs.map (·.name)))]) ∧ Frame [] w w' := by
  have S := Lib.hid h
  have U := Lib.hid hu
  clear h hu
  generalize hr : rankS (xs.map (·.name)) t = r
  generalize hd : memS t (xs.map (·.name)) = d
  have HR := Lib.hid hr
  have HD := Lib.hid hd
  clear hr hd
  go_enter Tryz.func84, Tryz.ntmps84
  go_wp2_with fail
  go_loopw [9, 10] (fun u v wr => ∃ lo hi : Nat, u = .int .i64 lo ∧ v = .int .i64 hi ∧ lo ≤ hi ∧ hi ≤ xs.length ∧ Frame [] w wr ∧ Hid ((∀ i (h : i < xs.length), i < lo → ltS xs[i].name t = true) ∧ (∀ i (h : i < xs.length), hi ≤ i → ltS xs[i].name t = false))) (fun u v _ => (intOf v).toNat - (intOf u).toNat)
  case atStart => exact ⟨0, xs.length, rfl, rfl, Nat.zero_le _, Nat.le_refl _, Frame.refl _ _, fun i h hi => absurd hi (Nat.not_lt_zero _), fun i h hi => by omega⟩
  case round =>
    obtain ⟨lo, hi, rfl, rfl, hlh, hin, hf, hI⟩ := hrel
    have s2 := S.out.frame0 hf
    by_cases hlt : lo < hi
    · have hm : (lo + hi) / 2 < xs.length := by omega
      have hx : xs[(lo + hi) / 2]? = some xs[(lo + hi) / 2] := by simp [hm]
      obtain ⟨b9, c9, e9, _, _, hc⟩ := s2.cell pr_len hx
      injection e9 with e9 _ e92
      subst e9 e92
      have q0 := hc 0 _ rfl
      have q1 := hc 1 _ rfl
      simp only [Nat.add_zero] at q0
      have hcmp := fun w => cmp_prop xs[(lo + hi) / 2] t w
      have hmono : ∀ i (h : i < xs.length), i ≤ (lo + hi) / 2 → ltS xs[(lo + hi) / 2].name xs[i].name = false := by
        intro i h hle
        rcases Nat.lt_or_ge i ((lo + hi) / 2) with q | q
        · have := (List.pairwise_iff_getElem.1 U.out) i ((lo + hi) / 2) (by simpa using h) (by simpa using hm) q
          exact ltS_asymm (by simpa using this)
        · obtain rfl : i = (lo + hi) / 2 := by omega
          exact ltS_irrefl _
      have hmono2 : ∀ i (h : i < xs.length), (lo + hi) / 2 ≤ i → ltS xs[i].name xs[(lo + hi) / 2].name = false := by
        intro i h hle
        rcases Nat.lt_or_ge ((lo + hi) / 2) i with q | q
        · have := (List.pairwise_iff_getElem.1 U.out) ((lo + hi) / 2) i (by simpa using hm) (by simpa using h) q
          exact ltS_asymm (by simpa using this)
        · obtain rfl : i = (lo + hi) / 2 := by omega
          exact ltS_irrefl _
      have M1 := Lib.hid hmono
      have M2 := Lib.hid hmono2
      clear hmono hmono2 hx hc s2
      have HF := Lib.hid hf
      clear hf
      generalize hxx : xs[(lo + hi) / 2] = x at *
      have HX := Lib.hid hxx
      clear hxx
      have HC := Lib.hid hcmp
      clear hcmp
      cases hk : ltS x.name t with
      | true =>
        have KK := Lib.hid hk
        have hneg : cmpS x.name t < 0 := (cmpS_neg _ _).2 hk
        clear hk
        go_wp2_with fail
        refine (HC.out _).mono ?_
        rintro e w3 ⟨rfl, f3⟩
        have F3 := Lib.hid f3
        clear f3
        go_wp2_with fail
        go_roundw
        case rel => exact ⟨(lo + hi) / 2 + 1, hi, by go_num, rfl, by omega, hin, HF.out.trans1 F3.out, fun i h hi' => ltS_le_lt (M1.out i h (by omega)) KK.out, hI.out.2⟩
        case measure => simp [intOf]; omega
      | false =>
        have KK := Lib.hid hk
        have hneg : ¬ cmpS x.name t < 0 := fun h => by rw [(cmpS_neg _ _).1 h] at hk; cases hk
        clear hk
        go_wp2_with fail
        refine (HC.out _).mono ?_
        rintro e w3 ⟨rfl, f3⟩
        have F3 := Lib.hid f3
        clear f3
        go_wp2_with fail
        go_roundw
        case rel => exact ⟨lo, (lo + hi) / 2, rfl, by go_num, by omega, by omega, HF.out.trans1 F3.out, hI.out.1, fun i h hi' => ltS_le_ge (M2.out i h hi') KK.out⟩
        case measure => simp [intOf]; omega
    · obtain rfl : lo = hi := by omega
      have hr : rankS (xs.map (·.name)) t = lo := rankS_of (by simpa using hin) (fun i h hi => by simpa using hI.out.1 i (by simpa using h) hi) (fun i h hi => by simpa using hI.out.2 i (by simpa using h) hi)
      have hme := rankS_mem (t := t) (r := lo) (by simpa using hin) (fun i h hi => by simpa using hI.out.1 i (by simpa using h) hi) U.out (fun i h hi => by simpa using hI.out.2 i (by simpa using h) hi)
      rw [HR.out] at hr
      rw [HD.out] at hme
      have hr2 := hr.symm
      clear hr
      subst hr2
      by_cases hl : lo < xs.length
      · have hx : xs[lo]? = some xs[lo] := by simp [hl]
        obtain ⟨b9, c9, e9, _, _, hc⟩ := s2.cell pr_len hx
        injection e9 with e9 _ e92
        subst e9 e92
        have q0 := hc 0 _ rfl
        have q1 := hc 1 _ rfl
        simp only [Nat.add_zero] at q0
        have hcmp := fun w => cmp_prop xs[lo] t w
        have hget : (xs.map (·.name))[lo]? = some xs[lo].name := by simp [hl]
        rw [hget] at hme
        have HF := Lib.hid hf
        clear hx hc s2 hf hget
        generalize xs[lo] = x at *
        have HC := Lib.hid hcmp
        clear hcmp
        by_cases hk : x.name = t
        · have hd : decide (some x.name = some t) = true := by simp [hk]
          rw [hd] at hme
          subst hme
          have h0 : cmpS x.name t = 0 := (cmpS_zero _ _).2 hk
          have h1 : (cmpS x.name t == 0) = true := by simp [h0]
          clear h0
          clear hd hk
          go_wp2_with fail
          refine (HC.out _).mono ?_
          rintro e w3 ⟨rfl, f3⟩
          have F3 := Lib.hid f3
          clear f3
          go_wp2_with fail
          go_ret2
          exact ⟨rfl, HF.out.trans1 F3.out⟩
        · have hd : decide (some x.name = some t) = false := by simp [hk]
          rw [hd] at hme
          subst hme
          have h0 : ¬ cmpS x.name t = 0 := fun h => hk ((cmpS_zero _ _).1 h)
          have h1 : (cmpS x.name t == 0) = false := by simp [h0]
          clear h0
          clear hd hk
          go_wp2_with fail
          refine (HC.out _).mono ?_
          rintro e w3 ⟨rfl, f3⟩
          have F3 := Lib.hid f3
          clear f3
          go_wp2_with fail
          go_ret2
          exact ⟨rfl, HF.out.trans1 F3.out⟩
      · have hd : decide ((xs.map (·.name))[lo]? = some t) = false := by rw [List.getElem?_eq_none (by first | omega | (simp; omega))]; simp
        rw [hd] at hme
        subst hme
        have HF := Lib.hid hf
        clear hd s2 hf
        go_wp2_with fail
        go_ret2
        exact ⟨rfl, HF.out⟩
end Go.Proofs.YtjcajidgaejhoaaGreat

namespace Go.Proofs.YtjcajidgaejhoaaGreat
open Go.RowKit
set_option linter.unusedSimpArgs false
set_option linter.unusedVariables false

theorem GG.gst {w : World} {pb : Nat} {F : List Nat} {rs : List Rn} {es : List Ed} {given : Int} (h : GG w pb F rs es given) : ∃ FG, GSt w pb FG (rs.map (·.nd)) es given := by
  obtain ⟨FG, h1, _⟩ := h; exact ⟨FG, h1⟩
/-- find, as GG has it. -/
theorem gg_find {w : World} {pb : Nat} {F : List Nat} {rs : List Rn} {es : List Ed} {given : Int} (h : GG w pb F rs es given) (hu : Up ((rs.map (·.nd)).map (·.id))) (hn : rs.length ≤ 1000000) (t : Int) (w' : World) (f : Frame [] w w') :
    Calls Tryz.prog 47 #[.pointer (some ⟨pb, 0, none⟩), .int .i64 t] w' fun e w'' => e = .returned (.tuple #[.int .i64 (rank ((rs.map (·.nd)).map (·.id)) t), .bool (decide (t ∈ (rs.map (·.nd)).map (·.id)))]) ∧ Frame [] w' w'' := by
  obtain ⟨FG, h1⟩ := (h.frame f (by simp)).gst
  exact gfind_any h1 hu (by rw [List.length_map]; exact hn) t
theorem rank_mid {xs bs : List Int} {t : Int} (hu : Up (xs ++ t :: bs)) : rank (xs ++ t :: bs) t = xs.length := by
  obtain ⟨u1, u2, u3⟩ := List.pairwise_append.1 hu
  have u4 := List.pairwise_cons.1 u2
  unfold rank
  rw [List.countP_append, List.countP_eq_length.2 (fun a ha => by simpa using u3 a ha t (by simp)), List.countP_eq_zero.2 (fun a ha => ?_)]
  · rfl
  · rcases List.mem_cons.1 ha with rfl | ha
    · simp
    · have := u4.1 a ha; simp; omega
theorem rank_split {A B : List Rn} {r : Rn} (hu : Up (((A ++ r :: B).map (·.nd)).map (·.id))) : rank (((A ++ r :: B).map (·.nd)).map (·.id)) r.nd.id = A.length ∧ r.nd.id ∈ ((A ++ r :: B).map (·.nd)).map (·.id) := by
  refine ⟨?_, by simp⟩
  have hu' := hu
  rw [List.map_append, List.map_cons, List.map_append, List.map_cons] at hu' ⊢
  rw [rank_mid hu', List.length_map, List.length_map]

section
variable {w : World} {pb b nc : Nat} {ae : Option Addr} {ec : Nat} {H : List Nat} {A B : List Rn} {r : Rn} {es : List Ed} {given : Int} {F : List Nat}
theorem glabel_name {rs : List Rn} (h : GG w pb F rs es given) (hu : Up ((rs.map (·.nd)).map (·.id))) (hn : rs.length ≤ 1000000) (t : Int) (s : ByteArray) (hl : s.size ≤ 9223372036854775807) (hs : namedB s = false) :
    Calls Tryz.prog 27 #[.pointer (some ⟨pb, 0, none⟩), .int .i64 t, .string s] w fun e w' => e = .returned (.int .i64 2) ∧ Frame [] w w' := by
  have hc := gg_find h hu hn t w (Frame.refl _ _)
  generalize rank ((rs.map (·.nd)).map (·.id)) t = k at *
  generalize decide (t ∈ (rs.map (·.nd)).map (·.id)) = d at *
  have HC := Lib.hid hc
  have HS := Lib.hid hs
  clear hc h hu hs
  go_enter Tryz.func27, Tryz.ntmps27
  go_wp2_with fail
  refine HC.out.mono ?_
  rintro e w3 ⟨rfl, f3⟩
  have F3 := Lib.hid f3
  clear f3
  go_wp2_with fail
  refine (named_any s _ hl).mono ?_
  rintro e w' ⟨rfl, rfl⟩
  rw [HS.out]
  go_wp2_with fail
  go_ret
  exact ⟨rfl, F3.out⟩
theorem glabel_none {rs : List Rn} (h : GG w pb F rs es given) (hu : Up ((rs.map (·.nd)).map (·.id))) (hn : rs.length ≤ 1000000) (t : Int) (s : ByteArray) (hl : s.size ≤ 9223372036854775807) (hs : namedB s = true) (hm : t ∉ (rs.map (·.nd)).map (·.id)) :
    Calls Tryz.prog 27 #[.pointer (some ⟨pb, 0, none⟩), .int .i64 t, .string s] w fun e w' => e = .returned (.int .i64 7) ∧ Frame [] w w' := by
  have hc := gg_find h hu hn t w (Frame.refl _ _)
  rw [decide_eq_false hm] at hc
  generalize rank ((rs.map (·.nd)).map (·.id)) t = k at *
  have HC := Lib.hid hc
  have HS := Lib.hid hs
  clear hc h hu hs hm
  go_enter Tryz.func27, Tryz.ntmps27
  go_wp2_with fail
  refine HC.out.mono ?_
  rintro e w3 ⟨rfl, f3⟩
  have F3 := Lib.hid f3
  clear f3
  go_wp2_with fail
  refine (named_any s _ hl).mono ?_
  rintro e w' ⟨rfl, rfl⟩
  rw [HS.out]
  go_wp2_with fail
  go_ret
  exact ⟨rfl, F3.out⟩

set_option maxHeartbeats 1000000 in
set_option maxRecDepth 100000 in
theorem glabel_has (hg : GG w pb F (A ++ r :: B) es given) (hu : Up (((A ++ r :: B).map (·.nd)).map (·.id))) (hn : (A ++ r :: B).length ≤ 1000000) (s : ByteArray) (hl : s.size ≤ 9223372036854775807) (hs : namedB s = true) (hul : UpS r.ls) (hm : memS s r.ls = true) :
    Calls Tryz.prog 27 #[.pointer (some ⟨pb, 0, none⟩), .int .i64 r.nd.id, .string s] w fun e w' => e = .returned (.int .i64 0) ∧ Frame [] w w' := by
  have hc := gg_find hg hu hn r.nd.id w (Frame.refl _ _)
  rw [(rank_split hu).1, decide_eq_true (rank_split hu).2] at hc
  obtain ⟨b, nc, ae, ec, H, hp, rfl⟩ := hg.parts
  have hok := hp.ok r (by simp)
  have hrow := hp.row
  have hlen : ((A ++ r :: B).map (·.nd)).length = (A ++ r :: B).length := List.length_map _
  have hAn : A.length < (A ++ r :: B).length := by simp
  have hcell : ∀ j u, r.nd.cs[j]? = some u → (((A ++ r :: B).map (·.nd)).flatMap Nd.cs)[A.length * 3 + j]? = some u := fun j u hj => flat_get nd_len (by simp) hj
  have k1 := hcell 1 _ rfl
  obtain ⟨⟨hln, hpn, hsl, hsp, hdj⟩, hl1, hl2⟩ := hok
  have SL := Lib.hid hsl
  have BS := Lib.hid (fun w' (f : Frame [] w w') => bs_str r.nd.la r.nd.lc r.ls r.L s w' (hsl.frame0 f) hul (by omega))
  have HC := Lib.hid hc
  have HP := Lib.hid hp
  have HS := Lib.hid hs
  have HM := Lib.hid hm
  have CELL := Lib.hid (fun w' (f : Frame [] w w') => (hrow.frame f (by simp)).cell k1)
  have OBJ := Lib.hid hp.obj
  have ROWX := Lib.hid hrow
  have HN := Lib.hid hn
  have hd := hp.disj
  have DJ := Lib.hid hd
  have LEN := Lib.hid (show r.nd.ln = r.ls.length from hln)
  have hrk := rankS_le r.ls s
  generalize rankS r.ls s = k at *
  rw [HM.out] at BS
  clear hc hg hu hs hm hp hrow hlen hcell k1 hln hpn hsl hsp hdj hul hd
  rw [LEN.out] at CELL
  generalize (A ++ r :: B).length = n at *
  go_enter Tryz.func27, Tryz.ntmps27
  go_wp2_with fail
  refine HC.out.mono ?_
  rintro e w3 ⟨rfl, f3⟩
  have F3 := Lib.hid f3
  clear f3
  go_wp2_with fail
  refine (named_any s _ hl).mono ?_
  rintro e w' ⟨rfl, rfl⟩
  rw [HS.out]
  have hob := OBJ.out.frame F3.out (by simp)
  have c0 := hob.at 0 rfl
  have c1 := CELL.out _ F3.out
  have OB := Lib.hid hob
  clear hob
  go_wp2_with fail
  refine (BS.out _ F3.out).mono ?_
  rintro e w4 ⟨rfl, f4⟩
  have F4 := Lib.hid (F3.out.trans1 f4)
  clear f4 c0 c1
  go_wp2_with fail
  go_ret
  exact ⟨rfl, F4.out⟩

set_option maxHeartbeats 1000000 in
set_option maxRecDepth 100000 in
theorem glabel_full (hg : GG w pb F (A ++ r :: B) es given) (hu : Up (((A ++ r :: B).map (·.nd)).map (·.id))) (hn : (A ++ r :: B).length ≤ 1000000) (s : ByteArray) (hl : s.size ≤ 9223372036854775807) (hs : namedB s = true) (hul : UpS r.ls) (hm : memS s r.ls = false) (h8 : 8 ≤ r.ls.length) :
    Calls Tryz.prog 27 #[.pointer (some ⟨pb, 0, none⟩), .int .i64 r.nd.id, .string s] w fun e w' => e = .returned (.int .i64 5) ∧ Frame [] w w' := by
  have hc := gg_find hg hu hn r.nd.id w (Frame.refl _ _)
  rw [(rank_split hu).1, decide_eq_true (rank_split hu).2] at hc
  obtain ⟨b, nc, ae, ec, H, hp, rfl⟩ := hg.parts
  have hok := hp.ok r (by simp)
  have hrow := hp.row
  have hlen : ((A ++ r :: B).map (·.nd)).length = (A ++ r :: B).length := List.length_map _
  have hAn : A.length < (A ++ r :: B).length := by simp
  have hcell : ∀ j u, r.nd.cs[j]? = some u → (((A ++ r :: B).map (·.nd)).flatMap Nd.cs)[A.length * 3 + j]? = some u := fun j u hj => flat_get nd_len (by simp) hj
  have k1 := hcell 1 _ rfl
  obtain ⟨⟨hln, hpn, hsl, hsp, hdj⟩, hl1, hl2⟩ := hok
  have SL := Lib.hid hsl
  have BS := Lib.hid (fun w' (f : Frame [] w w') => bs_str r.nd.la r.nd.lc r.ls r.L s w' (hsl.frame0 f) hul (by omega))
  have HC := Lib.hid hc
  have HP := Lib.hid hp
  have HS := Lib.hid hs
  have HM := Lib.hid hm
  have CELL := Lib.hid (fun w' (f : Frame [] w w') => (hrow.frame f (by simp)).cell k1)
  have OBJ := Lib.hid hp.obj
  have ROWX := Lib.hid hrow
  have HN := Lib.hid hn
  have hd := hp.disj
  have DJ := Lib.hid hd
  have LEN := Lib.hid (show r.nd.ln = r.ls.length from hln)
  have hrk := rankS_le r.ls s
  generalize rankS r.ls s = k at *
  rw [HM.out] at BS
  clear hc hg hu hs hm hp hrow hlen hcell k1 hln hpn hsl hsp hdj hul hd
  rw [LEN.out] at CELL
  generalize (A ++ r :: B).length = n at *
  go_enter Tryz.func27, Tryz.ntmps27
  go_wp2_with fail
  refine HC.out.mono ?_
  rintro e w3 ⟨rfl, f3⟩
  have F3 := Lib.hid f3
  clear f3
  go_wp2_with fail
  refine (named_any s _ hl).mono ?_
  rintro e w' ⟨rfl, rfl⟩
  rw [HS.out]
  have hob := OBJ.out.frame F3.out (by simp)
  have c0 := hob.at 0 rfl
  have c1 := CELL.out _ F3.out
  have OB := Lib.hid hob
  clear hob
  go_wp2_with fail
  refine (BS.out _ F3.out).mono ?_
  rintro e w4 ⟨rfl, f4⟩
  have F4 := Lib.hid (F3.out.trans1 f4)
  clear f4 c0 c1
  go_wp2_with fail
  go_ret
  exact ⟨rfl, F4.out⟩

set_option maxHeartbeats 1000000 in
set_option maxRecDepth 100000 in
theorem glabel_ins (hg : GG w pb F (A ++ r :: B) es given) (hu : Up (((A ++ r :: B).map (·.nd)).map (·.id))) (hn : (A ++ r :: B).length ≤ 1000000) (s : ByteArray) (hl : s.size ≤ 9223372036854775807) (hs : namedB s = true) (hul : UpS r.ls) (hm : memS s r.ls = false) (h8 : r.ls.length < 8) :
    Calls Tryz.prog 27 #[.pointer (some ⟨pb, 0, none⟩), .int .i64 r.nd.id, .string s] w fun e w' => e = .returned (.int .i64 0) ∧ ∃ r' F', r'.tell = (r.nd.id, r.ls.take (rankS r.ls s) ++ s :: r.ls.drop (rankS r.ls s), r.ps) ∧ GG w' pb F' (A ++ r' :: B) es given ∧ Frame F w w' ∧ ∀ x ∈ F', x ∈ F ∨ w.heap.size ≤ x := by
  have hc := gg_find hg hu hn r.nd.id w (Frame.refl _ _)
  rw [(rank_split hu).1, decide_eq_true (rank_split hu).2] at hc
  obtain ⟨b, nc, ae, ec, H, hp, rfl⟩ := hg.parts
  have hok := hp.ok r (by simp)
  have hrow := hp.row
  have hlen : ((A ++ r :: B).map (·.nd)).length = (A ++ r :: B).length := List.length_map _
  have hAn : A.length < (A ++ r :: B).length := by simp
  have hcell : ∀ j u, r.nd.cs[j]? = some u → (((A ++ r :: B).map (·.nd)).flatMap Nd.cs)[A.length * 3 + j]? = some u := fun j u hj => flat_get nd_len (by simp) hj
  have k1 := hcell 1 _ rfl
  obtain ⟨⟨hln, hpn, hsl, hsp, hdj⟩, hl1, hl2⟩ := hok
  have SL := Lib.hid hsl
  have BS := Lib.hid (fun w' (f : Frame [] w w') => bs_str r.nd.la r.nd.lc r.ls r.L s w' (hsl.frame0 f) hul (by omega))
  have HC := Lib.hid hc
  have HP := Lib.hid hp
  have HS := Lib.hid hs
  have HM := Lib.hid hm
  have CELL := Lib.hid (fun w' (f : Frame [] w w') => (hrow.frame f (by simp)).cell k1)
  have OBJ := Lib.hid hp.obj
  have ROWX := Lib.hid hrow
  have HN := Lib.hid hn
  have hd := hp.disj
  have DJ := Lib.hid hd
  have LEN := Lib.hid (show r.nd.ln = r.ls.length from hln)
  have hrk := rankS_le r.ls s
  generalize rankS r.ls s = k at *
  rw [HM.out] at BS
  clear hc hg hu hs hm hp hrow hlen hcell k1 hln hpn hsl hsp hdj hul hd
  rw [LEN.out] at CELL
  generalize (A ++ r :: B).length = n at *
  go_enter Tryz.func27, Tryz.ntmps27
  go_wp2_with fail
  refine HC.out.mono ?_
  rintro e w3 ⟨rfl, f3⟩
  have F3 := Lib.hid f3
  clear f3
  go_wp2_with fail
  refine (named_any s _ hl).mono ?_
  rintro e w' ⟨rfl, rfl⟩
  rw [HS.out]
  have hob := OBJ.out.frame F3.out (by simp)
  have c0 := hob.at 0 rfl
  have c1 := CELL.out _ F3.out
  have OB := Lib.hid hob
  clear hob
  go_wp2_with fail
  refine (BS.out _ F3.out).mono ?_
  rintro e w4 ⟨rfl, f4⟩
  have F4 := Lib.hid (F3.out.trans1 f4)
  clear f4 c0 c1
  have hob := OBJ.out.frame F4.out (by simp)
  have c0 := hob.at 0 rfl
  have OB4 := Lib.hid hob
  clear hob
  have SL4 := Lib.hid (SL.out.frame0 F4.out)
  have hpbL : pb ∉ r.L := fun h => (DJ.out.2.2.2.1 r (by simp)).1 (by simp [Rn.bl, h])
  have hbL : b ∉ r.L := fun h => (DJ.out.2.2.2.1 r (by simp)).2.1 (by simp [Rn.bl, h])
  have hpb : pb ≠ b := DJ.out.1
  have hbp : b ≠ pb := fun e => hpb e.symm
  have ROW4 := Lib.hid (ROWX.out.frame F4.out (by simp))
  go_wp2_with fail
  go_region_held3 (fun w' => w'.cell? ⟨pb, 0, none⟩ = some (.slice (some ⟨b, 0, none⟩) n nc)) (go_keep)
    ((go_at_call 55; refine (ins_str_any (.slice r.nd.la r.ls.length r.nd.lc) r.ls s r.L _ k _ (SL4.out.frame0 (by (repeat first | assumption | exact Frame.refl _ _ | refine Frame.trans1 ?_ (Frame.alloc _ _ _) | refine Frame.trans1 ?_ (Frame.drew _ _) | refine Frame.trans1 ?_ (Frame.drewN _ _ _)))) ((Blk.new _ _ _).drew) (fun hm => absurd (SL4.out.lt _ hm) (Nat.lt_irrefl _)) (by omega) hrk).mono ?_; rintro e w5 ⟨b', cap', rfl, sl5, f5, hb5⟩; have f45 : Frame r.L w4 w5 := (show Frame r.L w4 _ from by (repeat first | assumption | exact Frame.refl _ _ | refine Frame.trans1 ?_ (Frame.alloc _ _ _) | refine Frame.trans1 ?_ (Frame.drew _ _) | refine Frame.trans1 ?_ (Frame.drewN _ _ _))).trans1 f5; have c0 := (OB4.out.frame f45 hpbL).at 0 rfl; have z1 := (ROW4.out.frame f45 hbL).frozen (A.length * 3 + 1); have q1 := (ROW4.out.frame f45 hbL).cell (i := A.length * 3 + 1) (v := .slice r.nd.la r.ls.length r.nd.lc) (by rw [← LEN.out]; exact flat_get nd_len (show ((A ++ r :: B).map (·.nd))[A.length]? = some r.nd by simp) (j := 1) rfl)))
  go_wp2_with fail
  go_ret
  have P := HP.out
  have hP := HP.out.ok r (by simp)
  have hkl : (r.ls.take k ++ s :: r.ls.drop k).length = r.ls.length + 1 := by simp; omega
  have f5' : Frame r.L w w5 := (F4.out.mono (by simp)).trans1 f45
  have fs : Frame [b] w5 (w5.setCell ⟨b, A.length * 3 + 1, none⟩ (.slice (some ⟨b', 0, none⟩) (r.ls.length + 1) cap')) := Frame.setCell _ _ _ (by simp)
  have fr' : Frame (b :: r.L) w (w5.setCell ⟨b, A.length * 3 + 1, none⟩ (.slice (some ⟨b', 0, none⟩) (r.ls.length + 1) cap')) := (f5'.mono (fun x hx => .inl (by simp [hx]))).trans1 (fs.mono (fun x hx => .inl (by simp at hx; simp [hx])))
  have fr := fr'.mono (S' := b :: r.bl) (fun x hx => .inl (by simp at hx; rcases hx with hx | hx <;> simp [Rn.bl, hx]))
  have hb'w : b' ∈ r.L ∨ w.heap.size ≤ b' := by
    rcases hb5 with h | h
    · exact .inl h
    · right; have := F4.out.size; simp at h; omega
  have hbw := P.row.lt
  have hb'b : b' ≠ b := by
    rcases hb'w with h | h
    · exact fun e => hbL (e ▸ h)
    · omega
  have hb'P : b' ∉ r.P := by
    rcases hb'w with h | h
    · exact hP.1.2.2.2.2 b' h
    · intro hm; have := hP.1.2.2.2.1.lt b' hm; omega
  have g1 : RowAt (w5.setCell ⟨b, A.length * 3 + 1, none⟩ (.slice (some ⟨b', 0, none⟩) (r.ls.length + 1) cap')) b 41 3 (A ++ r :: B).length nc (((A ++ (⟨⟨r.nd.id, some ⟨b', 0, none⟩, r.ls.length + 1, cap', r.nd.pa, r.nd.pn, r.nd.pc⟩, r.ls.take k ++ s :: r.ls.drop k, r.ps, [b'], r.P⟩ : Rn) :: B).map (·.nd)).flatMap Nd.cs) := by
    have hr5 := P.row.frame f5' hbL
    rw [List.map_append, List.map_cons] at hr5 ⊢
    have := RowAt.put (y := ⟨r.nd.id, some ⟨b', 0, none⟩, r.ls.length + 1, cap', r.nd.pa, r.nd.pn, r.nd.pc⟩) (j := 1) (u := .slice (some ⟨b', 0, none⟩) (r.ls.length + 1) cap') hr5 nd_len (by omega) rfl
    rw [List.length_map] at this
    exact this
  have g2 := sl5.frame fs (by simpa using hb'b)
  rw [← hkl] at g2
  have g3 := hP.1.2.2.2.1.frame fr' (fun x hx hm => by
    simp at hm
    rcases hm with hm | hm
    · exact (DJ.out.2.2.2.1 r (by simp)).2.1 (by simp [Rn.bl]; exact .inr (hm ▸ hx))
    · exact hP.1.2.2.2.2 x hm hx)
  have g4 : ∀ x ∈ [b'] ++ r.P, x ∈ r.bl ∨ w.heap.size ≤ x := by
    intro x hx
    simp at hx
    rcases hx with rfl | hx
    · rcases hb'w with h | h
      · exact .inl (by simp [Rn.bl, h])
      · exact .inr h
    · exact .inl (by simp [Rn.bl, hx])
  have g5 : ([b'] ++ r.P).Nodup := by
    have := List.nodup_append.1 (DJ.out.2.2.2.2.2.2.2 : (r.L ++ r.P).Nodup)
    exact List.nodup_append.2 ⟨by simp, this.2.1, fun x hx y hy e => by simp at hx; subst hx; subst e; exact hb'P hy⟩
  rw [hkl] at g2
  obtain ⟨F', a1, a2, a3⟩ := Parts.put P fr g1 ⟨⟨hkl.symm, hP.1.2.1, by rw [hkl]; exact g2, g3, by simpa using hb'P⟩, by rw [hkl]; omega, hP.2.2⟩ g4 g5
  exact ⟨rfl, _, F', by simp [Rn.tell], a1, a2, a3⟩
end
end Go.Proofs.YtjcajidgaejhoaaGreat

