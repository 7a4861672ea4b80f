/- Binary search over a graph's edges, and its nodes. The graph's object, and its small calls. -/
import Derived.Test.YtjcajidgaejhoaaGreatMi06
import Derived.Test.YtjcajidgaejhoaaGreatMi09
import Derived.Test.YtjcajidgaejhoaaGreatMi10
namespace Go.Proofs.YtjcajidgaejhoaaGreat
open Go.RowKit
set_option linter.unusedSimpArgs false
set_option linter.unusedVariables false

set_option maxRecDepth 100000 in
theorem bsf_edge (a : Option Addr) (cap : Nat) (xs : List Ed) (G : List Nat) (t : Int) (w : World) (h : Sl w 44 4 Ed.cs (.slice a xs.length cap) xs G) (hu : Up (xs.map (·.tok))) (hn : xs.length ≤ 1073741824) :
    Calls Tryz.prog 77 #[.slice a xs.length cap, .int .i64 t, .func (.func 78) #[] #[]] w fun e w' => e = .returned (.tuple #[.int .i64 (rank (xs.map (·.tok)) t), .bool (decide (t ∈ xs.map (·.tok)))]) ∧ Frame [] w w' := by
  have S := Lib.hid h
  have U := Lib.hid hu
  clear h hu
  generalize hr : rank (xs.map (·.tok)) t = r
  generalize hd : decide (t ∈ xs.map (·.tok)) = d
  have HR := Lib.hid hr
  have HD := Lib.hid hd
  clear hr hd
  go_enter Tryz.func77, Tryz.ntmps77
  go_wp2_with fail
  go_loopw [9, 10] (fun u v wr => ∃ lo hi : Nat, u = .int .i64 lo ∧ v = .int .i64 hi ∧ lo ≤ hi ∧ hi ≤ xs.length ∧ Frame [] w wr ∧ Hid ((∀ i (h : i < xs.length), i < lo → xs[i].tok < t) ∧ (∀ i (h : i < xs.length), hi ≤ i → t ≤ xs[i].tok))) (fun u v _ => (intOf v).toNat - (intOf u).toNat)
  case atStart => exact ⟨0, xs.length, rfl, rfl, Nat.zero_le _, Nat.le_refl _, Frame.refl _ _, fun i h hi => absurd hi (Nat.not_lt_zero _), fun i h hi => by omega⟩
  case round =>
    obtain ⟨lo, hi, rfl, rfl, hlh, hin, hf, hI⟩ := hrel
    have s2 := S.out.frame0 hf
    by_cases hlt : lo < hi
    · have hm : (lo + hi) / 2 < xs.length := by omega
      have hx : xs[(lo + hi) / 2]? = some xs[(lo + hi) / 2] := by simp [hm]
      obtain ⟨b9, c9, e9, _, _, hc⟩ := s2.cell ed_len hx
      injection e9 with e9 _ e92
      subst e9 e92
      have q0 := hc 0 _ rfl
      have q1 := hc 1 _ rfl
      have q2 := hc 2 _ rfl
      have q3 := hc 3 _ rfl
      simp only [Nat.add_zero] at q0
      have hcmp := fun w => cmp_edge xs[(lo + hi) / 2] t w
      have hmono : ∀ i (h : i < xs.length), i ≤ (lo + hi) / 2 → xs[i].tok ≤ xs[(lo + hi) / 2].tok := by
        intro i h hle
        rcases Nat.lt_or_ge i ((lo + hi) / 2) with q | q
        · have := (List.pairwise_iff_getElem.1 U.out) i ((lo + hi) / 2) (by simpa using h) (by simpa using hm) q
          simp at this; omega
        · obtain rfl : i = (lo + hi) / 2 := by omega
          exact Int.le_refl _
      have hmono2 : ∀ i (h : i < xs.length), (lo + hi) / 2 ≤ i → xs[(lo + hi) / 2].tok ≤ xs[i].tok := by
        intro i h hle
        rcases Nat.lt_or_ge ((lo + hi) / 2) i with q | q
        · have := (List.pairwise_iff_getElem.1 U.out) ((lo + hi) / 2) i (by simpa using hm) (by simpa using h) q
          simp at this; omega
        · obtain rfl : i = (lo + hi) / 2 := by omega
          exact Int.le_refl _
      have M1 := Lib.hid hmono
      have M2 := Lib.hid hmono2
      clear hmono hmono2 hx hc s2
      have HF := Lib.hid hf
      clear hf
      generalize hxx : xs[(lo + hi) / 2] = x at *
      have HX := Lib.hid hxx
      clear hxx
      have HC := Lib.hid hcmp
      clear hcmp
      by_cases hk : x.tok < t
      · have hneg : cmpI x.tok t < 0 := (cmpI_neg _ _).2 hk
        go_wp2_with fail
        refine (HC.out _).mono ?_
        rintro e w3 ⟨rfl, f3⟩
        have F3 := Lib.hid f3
        clear f3
        go_wp2_with fail
        go_roundw
        case rel => exact ⟨(lo + hi) / 2 + 1, hi, by go_num, rfl, by omega, hin, HF.out.trans1 F3.out, fun i h hi' => by have := M1.out i h (by omega); omega, hI.out.2⟩
        case measure => simp [intOf]; omega
      · have hneg : ¬ cmpI x.tok t < 0 := fun h => hk ((cmpI_neg _ _).1 h)
        go_wp2_with fail
        refine (HC.out _).mono ?_
        rintro e w3 ⟨rfl, f3⟩
        have F3 := Lib.hid f3
        clear f3
        go_wp2_with fail
        go_roundw
        case rel => exact ⟨lo, (lo + hi) / 2, rfl, by go_num, by omega, by omega, HF.out.trans1 F3.out, hI.out.1, fun i h hi' => by have := M2.out i h hi'; omega⟩
        case measure => simp [intOf]; omega
    · obtain rfl : lo = hi := by omega
      have hr : rank (xs.map (·.tok)) t = lo := rank_of (by simpa using hin) (fun i h hi => by simpa using hI.out.1 i (by simpa using h) hi) (fun i h hi => by simpa using hI.out.2 i (by simpa using h) hi)
      have hme0 : True := trivial
      have hme := rank_mem (t := t) (r := lo) (by simpa using hin) (fun i h hi => by simpa using hI.out.1 i (by simpa using h) hi) U.out (fun i h hi => by simpa using hI.out.2 i (by simpa using h) hi)
      rw [HR.out] at hr
      rw [HD.out] at hme
      have hr2 := hr.symm
      clear hr
      subst hr2
      clear hme0
      by_cases hl : lo < xs.length
      · have hx : xs[lo]? = some xs[lo] := by simp [hl]
        obtain ⟨b9, c9, e9, _, _, hc⟩ := s2.cell ed_len hx
        injection e9 with e9 _ e92
        subst e9 e92
        have q0 := hc 0 _ rfl
        have q1 := hc 1 _ rfl
        have q2 := hc 2 _ rfl
        have q3 := hc 3 _ rfl
        simp only [Nat.add_zero] at q0
        have hcmp := fun w => cmp_edge xs[lo] t w
        have hget : (xs.map (·.tok))[lo]? = some xs[lo].tok := by simp [hl]
        rw [hget] at hme
        have HF := Lib.hid hf
        clear hx hc s2 hf hget
        generalize xs[lo] = x at *
        have HC := Lib.hid hcmp
        clear hcmp
        by_cases hk : x.tok = t
        · have h0 : cmpI x.tok t = 0 := (cmpI_zero _ _).2 hk
          have hd : decide (some x.tok = some t) = true := by simp [hk]
          rw [hd] at hme
          subst hme
          have h1 : (cmpI x.tok t == 0) = true := by simp [h0]
          clear h0 hd hk
          go_wp2_with fail
          refine (HC.out _).mono ?_
          rintro e w3 ⟨rfl, f3⟩
          have F3 := Lib.hid f3
          clear f3
          go_wp2_with fail
          go_ret2
          exact ⟨rfl, HF.out.trans1 F3.out⟩
        · have h0 : ¬ cmpI x.tok t = 0 := fun h => hk ((cmpI_zero _ _).1 h)
          have hd : decide (some x.tok = some t) = false := by simp [hk]
          rw [hd] at hme
          subst hme
          have h1 : (cmpI x.tok t == 0) = false := by simp [h0]
          clear h0 hd hk
          go_wp2_with fail
          refine (HC.out _).mono ?_
          rintro e w3 ⟨rfl, f3⟩
          have F3 := Lib.hid f3
          clear f3
          go_wp2_with fail
          go_ret2
          exact ⟨rfl, HF.out.trans1 F3.out⟩
      · have hd : decide ((xs.map (·.tok))[lo]? = some t) = false := by rw [List.getElem?_eq_none (by simp; omega)]; simp
        rw [hd] at hme
        subst hme
        have HF := Lib.hid hf
        clear hd s2 hf
        go_wp2_with fail
        go_ret2
        exact ⟨rfl, HF.out⟩

set_option maxRecDepth 100000 in
theorem bsf_node (a : Option Addr) (cap : Nat) (xs : List Nd) (G : List Nat) (t : Int) (w : World) (h : Sl w 41 3 Nd.cs (.slice a xs.length cap) xs G) (hu : Up (xs.map (·.id))) (hn : xs.length ≤ 1073741824) :
    Calls Tryz.prog 72 #[.slice a xs.length cap, .int .i64 t, .func (.func 73) #[] #[]] w fun e w' => e = .returned (.tuple #[.int .i64 (rank (xs.map (·.id)) t), .bool (decide (t ∈ xs.map (·.id)))]) ∧ Frame [] w w' := by
  have S := Lib.hid h
  have U := Lib.hid hu
  clear h hu
  generalize hr : rank (xs.map (·.id)) t = r
  generalize hd : decide (t ∈ xs.map (·.id)) = d
  have HR := Lib.hid hr
  have HD := Lib.hid hd
  clear hr hd
  go_enter Tryz.func72, Tryz.ntmps72
  go_wp2_with fail
  go_loopw [9, 10] (fun u v wr => ∃ lo hi : Nat, u = .int .i64 lo ∧ v = .int .i64 hi ∧ lo ≤ hi ∧ hi ≤ xs.length ∧ Frame [] w wr ∧ Hid ((∀ i (h : i < xs.length), i < lo → xs[i].id < t) ∧ (∀ i (h : i < xs.length), hi ≤ i → t ≤ xs[i].id))) (fun u v _ => (intOf v).toNat - (intOf u).toNat)
  case atStart => exact ⟨0, xs.length, rfl, rfl, Nat.zero_le _, Nat.le_refl _, Frame.refl _ _, fun i h hi => absurd hi (Nat.not_lt_zero _), fun i h hi => by omega⟩
  case round =>
    obtain ⟨lo, hi, rfl, rfl, hlh, hin, hf, hI⟩ := hrel
    have s2 := S.out.frame0 hf
    by_cases hlt : lo < hi
    · have hm : (lo + hi) / 2 < xs.length := by omega
      have hx : xs[(lo + hi) / 2]? = some xs[(lo + hi) / 2] := by simp [hm]
      obtain ⟨b9, c9, e9, _, _, hc⟩ := s2.cell nd_len hx
      injection e9 with e9 _ e92
      subst e9 e92
      have q0 := hc 0 _ rfl
      have q1 := hc 1 _ rfl
      have q2 := hc 2 _ rfl
      simp only [Nat.add_zero] at q0
      have hcmp := fun w => cmp_node xs[(lo + hi) / 2] t w
      have hmono : ∀ i (h : i < xs.length), i ≤ (lo + hi) / 2 → xs[i].id ≤ xs[(lo + hi) / 2].id := by
        intro i h hle
        rcases Nat.lt_or_ge i ((lo + hi) / 2) with q | q
        · have := (List.pairwise_iff_getElem.1 U.out) i ((lo + hi) / 2) (by simpa using h) (by simpa using hm) q
          simp at this; omega
        · obtain rfl : i = (lo + hi) / 2 := by omega
          exact Int.le_refl _
      have hmono2 : ∀ i (h : i < xs.length), (lo + hi) / 2 ≤ i → xs[(lo + hi) / 2].id ≤ xs[i].id := by
        intro i h hle
        rcases Nat.lt_or_ge ((lo + hi) / 2) i with q | q
        · have := (List.pairwise_iff_getElem.1 U.out) ((lo + hi) / 2) i (by simpa using hm) (by simpa using h) q
          simp at this; omega
        · obtain rfl : i = (lo + hi) / 2 := by omega
          exact Int.le_refl _
      have M1 := Lib.hid hmono
      have M2 := Lib.hid hmono2
      clear hmono hmono2 hx hc s2
      have HF := Lib.hid hf
      clear hf
      generalize hxx : xs[(lo + hi) / 2] = x at *
      have HX := Lib.hid hxx
      clear hxx
      have HC := Lib.hid hcmp
      clear hcmp
      by_cases hk : x.id < t
      · have hneg : cmpI x.id t < 0 := (cmpI_neg _ _).2 hk
        go_wp2_with fail
        refine (HC.out _).mono ?_
        rintro e w3 ⟨rfl, f3⟩
        have F3 := Lib.hid f3
        clear f3
        go_wp2_with fail
        go_roundw
        case rel => exact ⟨(lo + hi) / 2 + 1, hi, by go_num, rfl, by omega, hin, HF.out.trans1 F3.out, fun i h hi' => by have := M1.out i h (by omega); omega, hI.out.2⟩
        case measure => simp [intOf]; omega
      · have hneg : ¬ cmpI x.id t < 0 := fun h => hk ((cmpI_neg _ _).1 h)
        go_wp2_with fail
        refine (HC.out _).mono ?_
        rintro e w3 ⟨rfl, f3⟩
        have F3 := Lib.hid f3
        clear f3
        go_wp2_with fail
        go_roundw
        case rel => exact ⟨lo, (lo + hi) / 2, rfl, by go_num, by omega, by omega, HF.out.trans1 F3.out, hI.out.1, fun i h hi' => by have := M2.out i h hi'; omega⟩
        case measure => simp [intOf]; omega
    · obtain rfl : lo = hi := by omega
      have hr : rank (xs.map (·.id)) t = lo := rank_of (by simpa using hin) (fun i h hi => by simpa using hI.out.1 i (by simpa using h) hi) (fun i h hi => by simpa using hI.out.2 i (by simpa using h) hi)
      have hme0 : True := trivial
      have hme := rank_mem (t := t) (r := lo) (by simpa using hin) (fun i h hi => by simpa using hI.out.1 i (by simpa using h) hi) U.out (fun i h hi => by simpa using hI.out.2 i (by simpa using h) hi)
      rw [HR.out] at hr
      rw [HD.out] at hme
      have hr2 := hr.symm
      clear hr
      subst hr2
      clear hme0
      by_cases hl : lo < xs.length
      · have hx : xs[lo]? = some xs[lo] := by simp [hl]
        obtain ⟨b9, c9, e9, _, _, hc⟩ := s2.cell nd_len hx
        injection e9 with e9 _ e92
        subst e9 e92
        have q0 := hc 0 _ rfl
        have q1 := hc 1 _ rfl
        have q2 := hc 2 _ rfl
        simp only [Nat.add_zero] at q0
        have hcmp := fun w => cmp_node xs[lo] t w
        have hget : (xs.map (·.id))[lo]? = some xs[lo].id := by simp [hl]
        rw [hget] at hme
        have HF := Lib.hid hf
        clear hx hc s2 hf hget
        generalize xs[lo] = x at *
        have HC := Lib.hid hcmp
        clear hcmp
        by_cases hk : x.id = t
        · have h0 : cmpI x.id t = 0 := (cmpI_zero _ _).2 hk
          have hd : decide (some x.id = some t) = true := by simp [hk]
          rw [hd] at hme
          subst hme
          have h1 : (cmpI x.id t == 0) = true := by simp [h0]
          clear h0 hd hk
          go_wp2_with fail
          refine (HC.out _).mono ?_
          rintro e w3 ⟨rfl, f3⟩
          have F3 := Lib.hid f3
          clear f3
          go_wp2_with fail
          go_ret2
          exact ⟨rfl, HF.out.trans1 F3.out⟩
        · have h0 : ¬ cmpI x.id t = 0 := fun h => hk ((cmpI_zero _ _).1 h)
          have hd : decide (some x.id = some t) = false := by simp [hk]
          rw [hd] at hme
          subst hme
          have h1 : (cmpI x.id t == 0) = false := by simp [h0]
          clear h0 hd hk
          go_wp2_with fail
          refine (HC.out _).mono ?_
          rintro e w3 ⟨rfl, f3⟩
          have F3 := Lib.hid f3
          clear f3
          go_wp2_with fail
          go_ret2
          exact ⟨rfl, HF.out.trans1 F3.out⟩
      · have hd : decide ((xs.map (·.id))[lo]? = some t) = false := by rw [List.getElem?_eq_none (by simp; omega)]; simp
        rw [hd] at hme
        subst hme
        have HF := Lib.hid hf
        clear hd s2 hf
        go_wp2_with fail
        go_ret2
        exact ⟨rfl, HF.out⟩
end Go.Proofs.YtjcajidgaejhoaaGreat

namespace Go.Proofs.YtjcajidgaejhoaaGreat
open Go.RowKit
set_option linter.unusedSimpArgs false
set_option linter.unusedVariables false

/-- The graph at block pb; F: its blocks (but those of labels and properties). -/
def GSt (w : World) (pb : Nat) (F : List Nat) (ns : List Nd) (es : List Ed) (given : Int) : Prop :=
  ∃ an nc ae ec G H, Blk w pb 89 #[.slice an ns.length nc, .slice ae es.length ec, .int .i64 given] ∧ Sl w 41 3 Nd.cs (.slice an ns.length nc) ns G ∧ Sl w 44 4 Ed.cs (.slice ae es.length ec) es H ∧
    pb ∉ G ∧ pb ∉ H ∧ (∀ x ∈ G, x ∉ H) ∧ F = pb :: (G ++ H)
theorem GSt.lt {w : World} {pb : Nat} {F : List Nat} {ns : List Nd} {es : List Ed} {given : Int} (h : GSt w pb F ns es given) : ∀ x ∈ F, x < w.heap.size := by
  obtain ⟨an, nc, ae, ec, G, H, hb, sn, se, _, _, _, rfl⟩ := h
  intro x hx
  simp at hx
  rcases hx with rfl | h | h
  · exact hb.lt
  · exact sn.lt x h
  · exact se.lt x h
theorem GSt.frame {w w' : World} {pb : Nat} {F S : List Nat} {ns : List Nd} {es : List Ed} {given : Int} (h : GSt w pb F ns es given) (f : Frame S w w') (hS : ∀ x ∈ F, x ∉ S) : GSt w' pb F ns es given := by
  obtain ⟨an, nc, ae, ec, G, H, hb, sn, se, n1, n2, n3, rfl⟩ := h
  exact ⟨an, nc, ae, ec, G, H, hb.frame f (hS _ (by simp)), sn.frame f (fun x hx => hS x (by simp [hx])), se.frame f (fun x hx => hS x (by simp [hx])), n1, n2, n3, rfl⟩
theorem GSt.frame0 {w w' : World} {pb : Nat} {F : List Nat} {ns : List Nd} {es : List Ed} {given : Int} (h : GSt w pb F ns es given) (f : Frame [] w w') : GSt w' pb F ns es given := h.frame f (by simp)
/-- Behind a call that may write the graph. -/
def GEnd (w : World) (pb : Nat) (F : List Nat) (ns : List Nd) (es : List Ed) (given : Int) (w' : World) : Prop :=
  ∃ F', GSt w' pb F' ns es given ∧ Frame F w w' ∧ ∀ x ∈ F', x ∈ F ∨ w.heap.size ≤ x

theorem gnew_any (w : World) : Calls Tryz.prog 59 #[] w fun e w' => ∃ pb, e = .returned (.pointer (some ⟨pb, 0, none⟩)) ∧ GSt w' pb [pb] [] [] 0 ∧ Frame [] w w' ∧ w.heap.size ≤ pb := by
  go_enter Tryz.func59, Tryz.ntmps59
  go_wp2
  go_ret
  exact ⟨_, rfl, ⟨none, 0, none, 0, [], [], Blk.new _ _ _, Sl.nil _ _ _ _, Sl.nil _ _ _ _, by simp, by simp, by simp, by simp⟩, Frame.alloc _ _ _, Nat.le_refl _⟩

section
variable {w : World} {pb : Nat} {F : List Nat} {ns : List Nd} {es : List Ed} {given : Int}
theorem gfind_any (h : GSt w pb F ns es given) (hu : Up (ns.map (·.id))) (hn : ns.length ≤ 1000000) (t : Int) :
    Calls Tryz.prog 47 #[.pointer (some ⟨pb, 0, none⟩), .int .i64 t] w fun e w' => e = .returned (.tuple #[.int .i64 (rank (ns.map (·.id)) t), .bool (decide (t ∈ ns.map (·.id)))]) ∧ Frame [] w w' := by
  obtain ⟨an, nc, ae, ec, G, H, hb, sn, se, n1, n2, n3, rfl⟩ := h
  have c0 := hb.at 0 rfl
  have hc := bsf_node an nc ns G t w sn hu (by omega)
  generalize rank (ns.map (·.id)) t = r at *
  generalize decide (t ∈ ns.map (·.id)) = d at *
  have HC := Lib.hid hc
  clear hc hb sn se n1 n2 n3 hu
  go_enter Tryz.func47, Tryz.ntmps47
  go_wp2_with fail
  refine HC.out.mono ?_
  rintro e w3 ⟨rfl, f3⟩
  have F3 := Lib.hid f3
  clear f3
  go_wp2_with fail
  go_ret2
  exact ⟨rfl, F3.out⟩
theorem gplace_any (h : GSt w pb F ns es given) (hu : Up (es.map (·.tok))) (hn : es.length ≤ 1000000) (t : Int) :
    Calls Tryz.prog 52 #[.pointer (some ⟨pb, 0, none⟩), .int .i64 t] w fun e w' => e = .returned (.tuple #[.int .i64 (rank (es.map (·.tok)) t), .bool (decide (t ∈ es.map (·.tok)))]) ∧ Frame [] w w' := by
  obtain ⟨an, nc, ae, ec, G, H, hb, sn, se, n1, n2, n3, rfl⟩ := h
  have c1 := hb.at 1 rfl
  have hc := bsf_edge ae ec es H t w se hu (by omega)
  generalize rank (es.map (·.tok)) t = r at *
  generalize decide (t ∈ es.map (·.tok)) = d at *
  have HC := Lib.hid hc
  clear hc hb sn se n1 n2 n3 hu
  go_enter Tryz.func52, Tryz.ntmps52
  go_wp2_with fail
  refine HC.out.mono ?_
  rintro e w3 ⟨rfl, f3⟩
  have F3 := Lib.hid f3
  clear f3
  go_wp2_with fail
  go_ret2
  exact ⟨rfl, F3.out⟩
theorem ghas_any (h : GSt w pb F ns es given) (hu : Up (ns.map (·.id))) (hn : ns.length ≤ 1000000) (t : Int) :
    Calls Tryz.prog 51 #[.pointer (some ⟨pb, 0, none⟩), .int .i64 t] w fun e w' => e = .returned (.bool (decide (t ∈ ns.map (·.id)))) ∧ Frame [] w w' := by
  have hc := gfind_any h hu hn t
  generalize rank (ns.map (·.id)) t = r at *
  generalize decide (t ∈ ns.map (·.id)) = d at *
  have HC := Lib.hid hc
  clear hc h hu
  go_enter Tryz.func51, Tryz.ntmps51
  go_wp2_with fail
  refine HC.out.mono ?_
  rintro e w3 ⟨rfl, f3⟩
  have F3 := Lib.hid f3
  clear f3
  go_wp2_with fail
  go_ret
  exact ⟨rfl, F3.out⟩
end
/-- May a name be? -/
def namedB (s : ByteArray) : Bool := decide (0 < s.size) && decide (s.size ≤ 20)
theorem named_any (s : ByteArray) (w : World) (hs : s.size ≤ 9223372036854775807) : Calls Tryz.prog 50 #[.string s] w fun e w' => e = .returned (.bool (namedB s)) ∧ w' = w := by
  by_cases h0 : 0 < s.size
  · by_cases h1 : s.size ≤ 20
    · have e : namedB s = true := by simp [namedB, h0, h1]
      rw [e]
      clear e
      go_enter Tryz.func50, Tryz.ntmps50
      go_wp2
      go_ret
      exact ⟨by simp; omega, rfl⟩
    · have e : namedB s = false := by simp [namedB, h0, h1]
      rw [e]
      clear e
      go_enter Tryz.func50, Tryz.ntmps50
      go_wp2
      go_ret
      exact ⟨by simp; omega, rfl⟩
  · have e : namedB s = false := by simp [namedB, h0]
    have e0 : s.size = 0 := by omega
    rw [e]
    clear e
    go_enter Tryz.func50, Tryz.ntmps50
    go_wp2
    go_ret
    exact ⟨rfl, rfl⟩
end Go.Proofs.YtjcajidgaejhoaaGreat

