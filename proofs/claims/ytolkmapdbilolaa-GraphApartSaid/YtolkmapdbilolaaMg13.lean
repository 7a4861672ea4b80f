/- One node of a graph is written anew. Binary search over texts, and over properties by name. -/
import Derived.Test.YtolkmapdbilolaaMg08
namespace Go.Proofs.Ytolkmapdbilolaa
open Go.RowKit
set_option linter.unusedSimpArgs false
set_option linter.unusedVariables false

theorem RowAt.put {α : Type} {w : World} {b T sz n cap : Nat} {enc : α → List Value} {A B : List α} {x y : α} {j : Nat} {u : Value} (h : RowAt w b T sz n cap ((A ++ x :: B).flatMap enc)) (hsz : ∀ x, (enc x).length = sz) (hj : j < sz) (hy : enc y = (enc x).set j u) :
    RowAt (w.setCell ⟨b, A.length * sz + j, none⟩ u) b T sz n cap ((A ++ y :: B).flatMap enc) := by
  obtain ⟨cs, h1, h2, h3, h4, h5⟩ := h.blk
  refine RowAt.of_blk (h1.set _ u) h2 h3 (by simpa using h4) ?_
  rw [Array.toList_setIfInBounds, List.take_set, h5]
  have hl : (A.flatMap enc).length = A.length * sz := flat_len hsz A
  rw [List.flatMap_append, List.flatMap_cons, List.flatMap_append, List.flatMap_cons, hy]
  rw [List.set_append_right _ _ (by omega), hl, Nat.add_sub_cancel_left, List.set_append_left _ _ (by rw [hsz]; exact hj)]
theorem Sl.row {α : Type} {w : World} {e sz : Nat} {enc : α → List Value} {v : Value} {A B : List α} {x : α} {G : List Nat} (h : Sl w e sz enc v (A ++ x :: B) G) : ∃ b cap, v = .slice (some ⟨b, 0, none⟩) (A ++ x :: B).length cap ∧ G = [b] ∧ RowAt w b e sz (A ++ x :: B).length cap ((A ++ x :: B).flatMap enc) := by
  rcases h with ⟨_, h, _⟩ | h
  · simp at h
  · exact h

section
variable {w w' : World} {pb : Nat} {A B : List Rn} {r r' : Rn} {es : List Ed} {given : Int}
/-- What is behind the object: the nodes' row is in block b. -/
structure Parts (w : World) (pb b nc : Nat) (ae : Option Addr) (ec : Nat) (H : List Nat) (A : List Rn) (r : Rn) (B : List Rn) (es : List Ed) (given : Int) : Prop where
  obj : Blk w pb 59 #[.slice (some ⟨b, 0, none⟩) (A ++ r :: B).length nc, .slice ae es.length ec, .int .i64 given]
  row : RowAt w b 86 3 (A ++ r :: B).length nc (((A ++ r :: B).map (·.nd)).flatMap Nd.cs)
  edges : Sl w 49 4 Ed.cs (.slice ae es.length ec) es H
  ok : ∀ x ∈ A ++ r :: B, x.ok w
  nd : ((pb :: ([b] ++ H)) ++ (A ++ r :: B).flatMap Rn.bl).Nodup
theorem GG.parts {F : List Nat} (h : GG w pb F (A ++ r :: B) es given) : ∃ b nc ae ec H, Parts w pb b nc ae ec H A r B es given ∧ F = (pb :: ([b] ++ H)) ++ (A ++ r :: B).flatMap Rn.bl := by
  obtain ⟨FG, ⟨an, nc, ae, ec, G, H, hb, sn, se, n1, n2, n3, rfl⟩, h2, h3, rfl⟩ := h
  rw [List.map_append, List.map_cons] at sn
  obtain ⟨b, nc', hv, hG, hr⟩ := sn.row
  injection hv with hv1 hv2 hv3
  subst hG hv1 hv3
  have hl : (A.map (·.nd) ++ r.nd :: B.map (·.nd)).length = (A ++ r :: B).length := by simp
  rw [hl] at hr
  rw [List.length_map] at hb
  exact ⟨b, nc, ae, ec, H, ⟨hb, by simpa using hr, se, h2, h3⟩, rfl⟩
theorem Parts.disj {b nc : Nat} {ae : Option Addr} {ec : Nat} {H : List Nat} (h : Parts w pb b nc ae ec H A r B es given) :
    pb ≠ b ∧ pb ∉ H ∧ b ∉ H ∧ (∀ x ∈ A ++ r :: B, pb ∉ x.bl ∧ b ∉ x.bl ∧ ∀ y ∈ H, y ∉ x.bl) ∧ (∀ x, x ∈ A ∨ x ∈ B → ∀ y ∈ r.bl, y ∉ x.bl) ∧ H.Nodup ∧ (A.flatMap Rn.bl ++ B.flatMap Rn.bl).Nodup ∧ r.bl.Nodup := by
  obtain ⟨n1, n2, n3⟩ := List.nodup_append.1 h.nd
  have n4 := List.nodup_cons.1 n1
  obtain ⟨n5, n6, n7⟩ := List.nodup_append.1 n4.2
  rw [List.flatMap_append, List.flatMap_cons] at n2
  obtain ⟨m1, m2, m3⟩ := List.nodup_append.1 n2
  obtain ⟨m4, m5, m6⟩ := List.nodup_append.1 m2
  refine ⟨fun e => n4.1 (by simp [e]), fun e => n4.1 (by simp [e]), fun e => n7 b (by simp) b e rfl, fun x hx => ⟨fun e => n3 pb (by simp) pb (List.mem_flatMap.2 ⟨x, hx, e⟩) rfl, fun e => n3 b (by simp) b (List.mem_flatMap.2 ⟨x, hx, e⟩) rfl, fun y hy e => n3 y (by simp [hy]) y (List.mem_flatMap.2 ⟨x, hx, e⟩) rfl⟩, fun x hx y hy e => ?_, n6, List.nodup_append.2 ⟨m1, m5, fun x hx y hy => m3 x hx y (by simp [List.mem_append]; exact .inr (List.mem_flatMap.1 hy))⟩, m4⟩
  rcases hx with hx | hx
  · exact m3 y (List.mem_flatMap.2 ⟨x, hx, e⟩) y (by simp [hy]) rfl
  · exact m6 y hy y (List.mem_flatMap.2 ⟨x, hx, e⟩) rfl
/-- One node, and what it leads to, is written. -/
theorem Parts.put {b nc : Nat} {ae : Option Addr} {ec : Nat} {H : List Nat} (h : Parts w pb b nc ae ec H A r B es given) (fr : Frame (b :: r.bl) w w')
    (hrow : RowAt w' b 86 3 (A ++ r :: B).length nc (((A ++ r' :: B).map (·.nd)).flatMap Nd.cs)) (hok : r'.ok w') (hbl : ∀ x ∈ r'.bl, x ∈ r.bl ∨ w.heap.size ≤ x) (hnd : r'.bl.Nodup) :
    ∃ F', GG w' pb F' (A ++ r' :: B) es given ∧ Frame ((pb :: ([b] ++ H)) ++ (A ++ r :: B).flatMap Rn.bl) w w' ∧ ∀ x ∈ F', x ∈ (pb :: ([b] ++ H)) ++ (A ++ r :: B).flatMap Rn.bl ∨ w.heap.size ≤ x := by
  obtain ⟨d1, d2, d3, d4, d5, d6, d7, d8⟩ := h.disj
  have hl : (A ++ r' :: B).length = (A ++ r :: B).length := by simp
  have dr := d4 r (by simp)
  have hlo : ∀ x ∈ A ++ r :: B, ∀ y ∈ x.bl, y < w.heap.size := fun x hx y hy => Rn.ok_lt (h.ok x hx) y hy
  have hF : ∀ x ∈ (pb :: ([b] ++ H)) ++ (A ++ r' :: B).flatMap Rn.bl, x ∈ (pb :: ([b] ++ H)) ++ (A ++ r :: B).flatMap Rn.bl ∨ w.heap.size ≤ x := by
    intro x hx
    rcases List.mem_append.1 hx with hx | hx
    · exact .inl (List.mem_append.2 (.inl hx))
    · rw [List.flatMap_append, List.flatMap_cons] at hx
      rcases List.mem_append.1 hx with hx | hx
      · exact .inl (by rw [List.flatMap_append]; simp only [List.mem_append]; exact .inr (.inl hx))
      · rcases List.mem_append.1 hx with hx | hx
        · rcases hbl x hx with hx | hx
          · exact .inl (by rw [List.flatMap_append, List.flatMap_cons]; simp only [List.mem_append]; exact .inr (.inr (.inl hx)))
          · exact .inr hx
        · exact .inl (by rw [List.flatMap_append, List.flatMap_cons]; simp only [List.mem_append]; exact .inr (.inr (.inr hx)))
  refine ⟨(pb :: ([b] ++ H)) ++ (A ++ r' :: B).flatMap Rn.bl, ⟨pb :: ([b] ++ H), ⟨some ⟨b, 0, none⟩, nc, ae, ec, [b], H, ?_, ?_, ?_, by simpa using d1, d2, by simpa using d3, rfl⟩, ?_, ?_, rfl⟩, fr.mono ?_, hF⟩
  · rw [List.length_map, hl]
    exact h.obj.frame fr (by simp; exact ⟨d1, dr.1⟩)
  · refine .inr ⟨b, nc, rfl, rfl, ?_⟩
    rw [List.length_map, hl]; exact hrow
  · exact h.edges.frame fr (fun x hx hm => by
      simp at hm
      rcases hm with hm | hm
      · exact d3 (hm ▸ hx)
      · exact dr.2.2 x hx hm)
  · intro x hx
    have keep : ∀ x, x ∈ A ∨ x ∈ B → x.ok w' := fun x hx => by
      have hxm : x ∈ A ++ r :: B := by rcases hx with hx | hx <;> simp [hx]
      refine Rn.ok_frame (h.ok x hxm) fr (fun y hy hm => ?_)
      simp at hm
      rcases hm with hm | hm
      · exact (d4 x hxm).2.1 (hm ▸ hy)
      · exact d5 x hx y hm hy
    rcases List.mem_append.1 hx with hx | hx
    · exact keep x (.inl hx)
    · rcases List.mem_cons.1 hx with rfl | hx
      · exact hok
      · exact keep x (.inr hx)
  · have hb := h.obj.lt
    have hb2 := h.row.lt
    have hb3 := h.edges.lt
    obtain ⟨m1, m2, m3⟩ := List.nodup_append.1 d7
    have out : ∀ y ∈ r'.bl, y ≠ pb ∧ y ≠ b ∧ y ∉ H ∧ ∀ x, x ∈ A ∨ x ∈ B → y ∉ x.bl := fun y hy => by
      rcases hbl y hy with hy | hy
      · exact ⟨fun e => dr.1 (e ▸ hy), fun e => dr.2.1 (e ▸ hy), fun e => dr.2.2 y e hy, fun x hx e => d5 x hx y hy e⟩
      · exact ⟨by omega, by omega, fun e => by have := hb3 y e; omega, fun x hx e => by
          have := hlo x (by rcases hx with hx | hx <;> simp [hx]) y e; omega⟩
    rw [List.flatMap_append, List.flatMap_cons]
    refine List.nodup_append.2 ⟨List.nodup_cons.2 ⟨by simp [d1, d2], List.nodup_append.2 ⟨by simp, d6, fun x hx y hy e => by simp at hx; subst hx; subst e; exact d3 hy⟩⟩, List.nodup_append.2 ⟨m1, List.nodup_append.2 ⟨hnd, m2, fun x hx y hy e => ?_⟩, fun x hx y hy e => ?_⟩, fun x hx y hy e => ?_⟩
    · subst e
      obtain ⟨z, hz, hy⟩ := List.mem_flatMap.1 hy
      exact (out x hx).2.2.2 z (.inr hz) hy
    · subst e
      obtain ⟨z, hz, hx⟩ := List.mem_flatMap.1 hx
      rcases List.mem_append.1 hy with hy | hy
      · exact (out x hy).2.2.2 z (.inl hz) hx
      · exact m3 x (List.mem_flatMap.2 ⟨z, hz, hx⟩) x hy rfl
    · subst e
      have key : ∀ z, z ∈ A ∨ z ∈ B → x ∈ z.bl → False := fun z hz hxz => by
        have hzm : z ∈ A ++ r :: B := by rcases hz with hz | hz <;> simp [hz]
        have dz := d4 z hzm
        simp only [List.mem_cons, List.mem_append, List.mem_singleton, List.mem_nil_iff, or_false] at hx
        rcases hx with hx | hx | hx
        · exact dz.1 (hx ▸ hxz)
        · exact dz.2.1 (hx ▸ hxz)
        · exact dz.2.2 x hx hxz
      rcases List.mem_append.1 hy with hy | hy
      · obtain ⟨z, hz, hy⟩ := List.mem_flatMap.1 hy
        exact key z (.inl hz) hy
      · rcases List.mem_append.1 hy with hy | hy
        · have o := out x hy
          simp only [List.mem_cons, List.mem_append, List.mem_singleton, List.mem_nil_iff, or_false] at hx
          rcases hx with hx | hx | hx
          · exact o.1 hx
          · exact o.2.1 hx
          · exact o.2.2.1 hx
        · obtain ⟨z, hz, hy⟩ := List.mem_flatMap.1 hy
          exact key z (.inr hz) hy
  · intro x hx
    left
    simp only [List.mem_cons] at hx
    rcases hx with rfl | hx
    · simp
    · rw [List.flatMap_append, List.flatMap_cons]; simp only [List.mem_append]; exact .inr (.inr (.inl hx))
end
end Go.Proofs.Ytolkmapdbilolaa

namespace Go.Proofs.Ytolkmapdbilolaa
open Go.RowKit
set_option linter.unusedSimpArgs false
set_option linter.unusedVariables false

set_option maxHeartbeats 1000000 in
set_option maxRecDepth 100000 in
theorem bs_str (a : Option Addr) (cap : Nat) (xs : List ByteArray) (G : List Nat) (t : ByteArray) (w : World) (h : Sl w 9 1 encS (.slice a xs.length cap) xs G) (hu : UpS (xs)) (hn : xs.length ≤ 1073741824) :
    Calls Try.prog 78 #[.slice a xs.length cap, .string t] w fun e w' => e = .returned (.tuple #[.int .i64 (rankS (xs) t), .bool (memS t (xs))]) ∧ Frame [] w w' := by
  have S := Lib.hid h
  have U := Lib.hid hu
  clear h hu
  generalize hr : rankS (xs) t = r
  generalize hd : memS t (xs) = d
  have HR := Lib.hid hr
  have HD := Lib.hid hd
  clear hr hd
  go_enter Try.func78, Try.ntmps78
  go_wp2_with fail
  go_loopw [7, 8] (fun u v wr => ∃ lo hi : Nat, u = .int .i64 lo ∧ v = .int .i64 hi ∧ lo ≤ hi ∧ hi ≤ xs.length ∧ Frame [] w wr ∧ Hid ((∀ i (h : i < xs.length), i < lo → ltS xs[i] t = true) ∧ (∀ i (h : i < xs.length), hi ≤ i → ltS xs[i] t = false))) (fun u v _ => (intOf v).toNat - (intOf u).toNat)
  case atStart => exact ⟨0, xs.length, rfl, rfl, Nat.zero_le _, Nat.le_refl _, Frame.refl _ _, fun i h hi => absurd hi (Nat.not_lt_zero _), fun i h hi => by omega⟩
  case round =>
    obtain ⟨lo, hi, rfl, rfl, hlh, hin, hf, hI⟩ := hrel
    have s2 := S.out.frame0 hf
    by_cases hlt : lo < hi
    · have hm : (lo + hi) / 2 < xs.length := by omega
      have hx : xs[(lo + hi) / 2]? = some xs[(lo + hi) / 2] := by simp [hm]
      obtain ⟨b9, c9, e9, _, _, hc⟩ := s2.cell encS_len hx
      injection e9 with e9 _ e92
      subst e9 e92
      have q0 := hc 0 _ rfl
      simp only [Nat.add_zero] at q0
      simp only [Nat.mul_one] at q0
      have hcmp := fun w => less_str xs[(lo + hi) / 2] t w
      have hmono : ∀ i (h : i < xs.length), i ≤ (lo + hi) / 2 → ltS xs[(lo + hi) / 2] xs[i] = false := by
        intro i h hle
        rcases Nat.lt_or_ge i ((lo + hi) / 2) with q | q
        · have := (List.pairwise_iff_getElem.1 U.out) i ((lo + hi) / 2) (by simpa using h) (by simpa using hm) q
          exact ltS_asymm (by simpa using this)
        · obtain rfl : i = (lo + hi) / 2 := by omega
          exact ltS_irrefl _
      have hmono2 : ∀ i (h : i < xs.length), (lo + hi) / 2 ≤ i → ltS xs[i] xs[(lo + hi) / 2] = false := by
        intro i h hle
        rcases Nat.lt_or_ge ((lo + hi) / 2) i with q | q
        · have := (List.pairwise_iff_getElem.1 U.out) ((lo + hi) / 2) i (by simpa using hm) (by simpa using h) q
          exact ltS_asymm (by simpa using this)
        · obtain rfl : i = (lo + hi) / 2 := by omega
          exact ltS_irrefl _
      have M1 := Lib.hid hmono
      have M2 := Lib.hid hmono2
      clear hmono hmono2 hx hc s2
      have HF := Lib.hid hf
      clear hf
      generalize hxx : xs[(lo + hi) / 2] = x at *
      have HX := Lib.hid hxx
      clear hxx
      have HC := Lib.hid hcmp
      clear hcmp
      cases hk : ltS x t with
      | true =>
        have KK := Lib.hid hk
        have K1 : Hid True := Lib.hid trivial
        clear hk
        go_wp2_with fail
        refine (HC.out _).mono ?_
        rintro e w3 ⟨rfl, rfl⟩
        rw [KK.out]
        go_wp2_with fail
        go_roundw
        case rel => exact ⟨(lo + hi) / 2 + 1, hi, by go_num, rfl, by omega, hin, HF.out, fun i h hi' => ltS_le_lt (M1.out i h (by omega)) KK.out, hI.out.2⟩
        case measure => simp [intOf]; omega
      | false =>
        have KK := Lib.hid hk
        have K1 : Hid True := Lib.hid trivial
        clear hk
        go_wp2_with fail
        refine (HC.out _).mono ?_
        rintro e w3 ⟨rfl, rfl⟩
        rw [KK.out]
        go_wp2_with fail
        go_roundw
        case rel => exact ⟨lo, (lo + hi) / 2, rfl, by go_num, by omega, by omega, HF.out, hI.out.1, fun i h hi' => ltS_le_ge (M2.out i h hi') KK.out⟩
        case measure => simp [intOf]; omega
    · obtain rfl : lo = hi := by omega
      have hr : rankS (xs) t = lo := rankS_of (by simpa using hin) (fun i h hi => by simpa using hI.out.1 i (by simpa using h) hi) (fun i h hi => by simpa using hI.out.2 i (by simpa using h) hi)
      have hme := rankS_mem (t := t) (r := lo) (by simpa using hin) (fun i h hi => by simpa using hI.out.1 i (by simpa using h) hi) U.out (fun i h hi => by simpa using hI.out.2 i (by simpa using h) hi)
      rw [HR.out] at hr
      rw [HD.out] at hme
      have hr2 := hr.symm
      clear hr
      subst hr2
      by_cases hl : lo < xs.length
      · have hx : xs[lo]? = some xs[lo] := by simp [hl]
        obtain ⟨b9, c9, e9, _, _, hc⟩ := s2.cell encS_len hx
        injection e9 with e9 _ e92
        subst e9 e92
        have q0 := hc 0 _ rfl
        simp only [Nat.add_zero] at q0
        simp only [Nat.mul_one] at q0
        have hcmp := fun w => less_str xs[lo] t w
        have hget : (xs)[lo]? = some xs[lo] := by simp [hl]
        rw [hget] at hme
        have HF := Lib.hid hf
        clear hx hc s2 hf hget
        generalize xs[lo] = x at *
        have HC := Lib.hid hcmp
        clear hcmp
        by_cases hk : x = t
        · have hd : decide (some x = some t) = true := by simp [hk]
          rw [hd] at hme
          subst hme
          subst hk
          have h1 : (x.toList == x.toList) = true := by simp
          clear hd
          go_wp2_with (go_at_call 126; refine (sisNaN_str _ _).mono ?_; rintro e w' ⟨rfl, rfl⟩)
          go_ret2
          exact ⟨rfl, HF.out⟩
        · have hd : decide (some x = some t) = false := by simp [hk]
          rw [hd] at hme
          subst hme
          have h1 := eqL_false hk
          clear hd hk
          go_wp2_with (go_at_call 126; refine (sisNaN_str _ _).mono ?_; rintro e w' ⟨rfl, rfl⟩)
          go_ret2
          exact ⟨rfl, HF.out⟩
      · have hd : decide ((xs)[lo]? = some t) = false := by rw [List.getElem?_eq_none (by first | omega | (simp; omega))]; simp
        rw [hd] at hme
        subst hme
        have HF := Lib.hid hf
        clear hd s2 hf
        go_wp2_with fail
        go_ret2
        exact ⟨rfl, HF.out⟩

set_option maxHeartbeats 1000000 in
set_option maxRecDepth 100000 in
theorem bsf_prop (a : Option Addr) (cap : Nat) (xs : List Pr) (G : List Nat) (t : ByteArray) (w : World) (h : Sl w 129 2 Pr.cs (.slice a xs.length cap) xs G) (hu : UpS (xs.map (·.name))) (hn : xs.length ≤ 1073741824) :
    Calls Try.prog 80 #[.slice a xs.length cap, .string t, .func (.func 81) #[] #[]] w fun e w' => e = .returned (.tuple #[.int .i64 (rankS (xs.map (·.name)) t), .bool (memS t (xs.map (·.name)))]) ∧ Frame [] w w' := by
  have S := Lib.hid h
  have U := Lib.hid hu
  clear h hu
  generalize hr : rankS (xs.map (·.name)) t = r
  generalize hd : memS t (xs.map (·.name)) = d
  have HR := Lib.hid hr
  have HD := Lib.hid hd
  clear hr hd
  go_enter Try.func80, Try.ntmps80
  go_wp2_with fail
  go_loopw [9, 10] (fun u v wr => ∃ lo hi : Nat, u = .int .i64 lo ∧ v = .int .i64 hi ∧ lo ≤ hi ∧ hi ≤ xs.length ∧ Frame [] w wr ∧ Hid ((∀ i (h : i < xs.length), i < lo → ltS xs[i].name t = true) ∧ (∀ i (h : i < xs.length), hi ≤ i → ltS xs[i].name t = false))) (fun u v _ => (intOf v).toNat - (intOf u).toNat)
  case atStart => exact ⟨0, xs.length, rfl, rfl, Nat.zero_le _, Nat.le_refl _, Frame.refl _ _, fun i h hi => absurd hi (Nat.not_lt_zero _), fun i h hi => by omega⟩
  case round =>
    obtain ⟨lo, hi, rfl, rfl, hlh, hin, hf, hI⟩ := hrel
    have s2 := S.out.frame0 hf
    by_cases hlt : lo < hi
    · have hm : (lo + hi) / 2 < xs.length := by omega
      have hx : xs[(lo + hi) / 2]? = some xs[(lo + hi) / 2] := by simp [hm]
      obtain ⟨b9, c9, e9, _, _, hc⟩ := s2.cell pr_len hx
      injection e9 with e9 _ e92
      subst e9 e92
      have q0 := hc 0 _ rfl
      have q1 := hc 1 _ rfl
      simp only [Nat.add_zero] at q0
      have hcmp := fun w => cmp_prop xs[(lo + hi) / 2] t w
      have hmono : ∀ i (h : i < xs.length), i ≤ (lo + hi) / 2 → ltS xs[(lo + hi) / 2].name xs[i].name = false := by
        intro i h hle
        rcases Nat.lt_or_ge i ((lo + hi) / 2) with q | q
        · have := (List.pairwise_iff_getElem.1 U.out) i ((lo + hi) / 2) (by simpa using h) (by simpa using hm) q
          exact ltS_asymm (by simpa using this)
        · obtain rfl : i = (lo + hi) / 2 := by omega
          exact ltS_irrefl _
      have hmono2 : ∀ i (h : i < xs.length), (lo + hi) / 2 ≤ i → ltS xs[i].name xs[(lo + hi) / 2].name = false := by
        intro i h hle
        rcases Nat.lt_or_ge ((lo + hi) / 2) i with q | q
        · have := (List.pairwise_iff_getElem.1 U.out) ((lo + hi) / 2) i (by simpa using hm) (by simpa using h) q
          exact ltS_asymm (by simpa using this)
        · obtain rfl : i = (lo + hi) / 2 := by omega
          exact ltS_irrefl _
      have M1 := Lib.hid hmono
      have M2 := Lib.hid hmono2
      clear hmono hmono2 hx hc s2
      have HF := Lib.hid hf
      clear hf
      generalize hxx : xs[(lo + hi) / 2] = x at *
      have HX := Lib.hid hxx
      clear hxx
      have HC := Lib.hid hcmp
      clear hcmp
      cases hk : ltS x.name t with
      | true =>
        have KK := Lib.hid hk
        have hneg : cmpS x.name t < 0 := (cmpS_neg _ _).2 hk
        clear hk
        go_wp2_with fail
        refine (HC.out _).mono ?_
        rintro e w3 ⟨rfl, f3⟩
        have F3 := Lib.hid f3
        clear f3
        go_wp2_with fail
        go_roundw
        case rel => exact ⟨(lo + hi) / 2 + 1, hi, by go_num, rfl, by omega, hin, HF.out.trans1 F3.out, fun i h hi' => ltS_le_lt (M1.out i h (by omega)) KK.out, hI.out.2⟩
        case measure => simp [intOf]; omega
      | false =>
        have KK := Lib.hid hk
        have hneg : ¬ cmpS x.name t < 0 := fun h => by rw [(cmpS_neg _ _).1 h] at hk; cases hk
        clear hk
        go_wp2_with fail
        refine (HC.out _).mono ?_
        rintro e w3 ⟨rfl, f3⟩
        have F3 := Lib.hid f3
        clear f3
        go_wp2_with fail
        go_roundw
        case rel => exact ⟨lo, (lo + hi) / 2, rfl, by go_num, by omega, by omega, HF.out.trans1 F3.out, hI.out.1, fun i h hi' => ltS_le_ge (M2.out i h hi') KK.out⟩
        case measure => simp [intOf]; omega
    · obtain rfl : lo = hi := by omega
      have hr : rankS (xs.map (·.name)) t = lo := rankS_of (by simpa using hin) (fun i h hi => by simpa using hI.out.1 i (by simpa using h) hi) (fun i h hi => by simpa using hI.out.2 i (by simpa using h) hi)
      have hme := rankS_mem (t := t) (r := lo) (by simpa using hin) (fun i h hi => by simpa using hI.out.1 i (by simpa using h) hi) U.out (fun i h hi => by simpa using hI.out.2 i (by simpa using h) hi)
      rw [HR.out] at hr
      rw [HD.out] at hme
      have hr2 := hr.symm
      clear hr
      subst hr2
      by_cases hl : lo < xs.length
      · have hx : xs[lo]? = some xs[lo] := by simp [hl]
        obtain ⟨b9, c9, e9, _, _, hc⟩ := s2.cell pr_len hx
        injection e9 with e9 _ e92
        subst e9 e92
        have q0 := hc 0 _ rfl
        have q1 := hc 1 _ rfl
        simp only [Nat.add_zero] at q0
        have hcmp := fun w => cmp_prop xs[lo] t w
        have hget : (xs.map (·.name))[lo]? = some xs[lo].name := by simp [hl]
        rw [hget] at hme
        have HF := Lib.hid hf
        clear hx hc s2 hf hget
        generalize xs[lo] = x at *
        have HC := Lib.hid hcmp
        clear hcmp
        by_cases hk : x.name = t
        · have hd : decide (some x.name = some t) = true := by simp [hk]
          rw [hd] at hme
          subst hme
          have h0 : cmpS x.name t = 0 := (cmpS_zero _ _).2 hk
          have h1 : (cmpS x.name t == 0) = true := by simp [h0]
          clear h0
          clear hd hk
          go_wp2_with fail
          refine (HC.out _).mono ?_
          rintro e w3 ⟨rfl, f3⟩
          have F3 := Lib.hid f3
          clear f3
          go_wp2_with fail
          go_ret2
          exact ⟨rfl, HF.out.trans1 F3.out⟩
        · have hd : decide (some x.name = some t) = false := by simp [hk]
          rw [hd] at hme
          subst hme
          have h0 : ¬ cmpS x.name t = 0 := fun h => hk ((cmpS_zero _ _).1 h)
          have h1 : (cmpS x.name t == 0) = false := by simp [h0]
          clear h0
          clear hd hk
          go_wp2_with fail
          refine (HC.out _).mono ?_
          rintro e w3 ⟨rfl, f3⟩
          have F3 := Lib.hid f3
          clear f3
          go_wp2_with fail
          go_ret2
          exact ⟨rfl, HF.out.trans1 F3.out⟩
      · have hd : decide ((xs.map (·.name))[lo]? = some t) = false := by rw [List.getElem?_eq_none (by first | omega | (simp; omega))]; simp
        rw [hd] at hme
        subst hme
        have HF := Lib.hid hf
        clear hd s2 hf
        go_wp2_with fail
        go_ret2
        exact ⟨rfl, HF.out⟩
end Go.Proofs.Ytolkmapdbilolaa

