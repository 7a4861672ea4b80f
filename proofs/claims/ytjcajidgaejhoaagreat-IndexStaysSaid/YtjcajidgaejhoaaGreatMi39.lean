/- The reference's Node. graph's Node. The reference's Holds. graph's Holds. -/
import Derived.Test.YtjcajidgaejhoaaGreatMi31
import Derived.Test.YtjcajidgaejhoaaGreatMi24
import Derived.Test.YtjcajidgaejhoaaGreatMi25
import Derived.Test.YtjcajidgaejhoaaGreatMi33
import Derived.Test.YtjcajidgaejhoaaGreatMi35
import Derived.Test.YtjcajidgaejhoaaGreatMi19
namespace Go.Proofs.YtjcajidgaejhoaaGreat
open Go.RowKit
set_option linter.unusedSimpArgs false
set_option linter.unusedVariables false

/-- A node as a value. -/
def NdIs (U : Nat → Prop) (w : World) (x : Value) (n : Nv) : Prop := ∃ la lc pa pc, x = .agg #[.int .i64 n.1, .slice la n.2.1.length lc, .slice pa n.2.2.length pc] ∧ RF U w 1 encS la n.2.1 ∧ RF U w 2 Pr.cs pa n.2.2
theorem NdIs.frame0 {U : Nat → Prop} {w w' : World} {x : Value} {n : Nv} (h : NdIs U w x n) (f : Frame [] w w') : NdIs U w' x n := by
  obtain ⟨la, lc, pa, pc, h1, h2, h3⟩ := h
  exact ⟨la, lc, pa, pc, h1, h2.frame0 f, h3.frame0 f⟩
theorem RF.nil0 {α : Type} (U : Nat → Prop) (w : World) (sz : Nat) (enc : α → List Value) (a : Option Addr) : RF U w sz enc a [] := fun k x hx => by simp at hx
def nodeOf (ns : List Nv) (t : Int) : Nv × Bool := if t ∈ ns.map (·.1) then (match ns[rank (ns.map (·.1)) t]? with | some n => (n, true) | none => ((0, [], []), false)) else ((0, [], []), false)
def NodeEnd (U : Nat → Prop) (ns : List Nv) (t : Int) (w : World) (e : Ending) (w' : World) : Prop := ∃ x, e = .returned (.tuple #[x, .bool (nodeOf ns t).2]) ∧ NdIs U w' x (nodeOf ns t).1 ∧ Frame [] w w'

set_option maxHeartbeats 4000000 in
theorem rnode_any (U : Nat → Prop) (an ae : Option Addr) (nc en ec : Nat) (ns : List Nv) (nx t : Int) (w : World) (h : RN U w an ns) (hu : Up (ns.map (·.1))) (hl : ns.length ≤ 1000000) :
    Calls Tryz.prog 38 #[.agg #[.slice an ns.length nc, .slice ae en ec, .int .i64 nx], .int .i64 t] w (NodeEnd U ns t w) := by
  have HPL := Lib.hid (fun w' (f : Frame [] w w') => place_any U an ae nc en ec ns nx t w' (h.frame0 f) hl)
  have H := Lib.hid h
  clear h
  by_cases ht : t ∈ ns.map (·.1)
  case neg =>
    have E : Hid (nodeOf ns t = ((0, [], []), false)) := by show _ = _; unfold nodeOf; rw [if_neg ht]
    have hp : placeV ns t < 0 := by rcases Int.lt_or_le (placeV ns t) 0 with h | h; exact h; exact absurd (placeV_mem.1 h) ht
    have hd : decide (placeV ns t < 0) = true := by simpa using hp
    clear ht hu
    generalize hq : placeV ns t = pv at *
    clear hq
    go_enter Tryz.func38, Tryz.ntmps38
    go_wp2_with fail
    have fr : Frame [] w ((w.alloc (.cells #[.slice an ns.length nc, .slice ae en ec, .int .i64 nx] 25)).alloc (.cells #[.int .i64 0, .slice none 0 0, .slice none 0 0] 41)) := (Frame.alloc _ _ _).trans1 (Frame.alloc _ _ _)
    have b0 := (Blk.new w 25 #[.slice an ns.length nc, .slice ae en ec, .int .i64 nx]).alloc (.cells #[.int .i64 0, .slice none 0 0, .slice none 0 0] 41)
    have b1 := Blk.new (w.alloc (.cells #[.slice an ns.length nc, .slice ae en ec, .int .i64 nx] 25)) 41 #[.int .i64 0, .slice none 0 0, .slice none 0 0]
    simp only [World.size_alloc] at b1
    generalize (w.alloc (.cells #[.slice an ns.length nc, .slice ae en ec, .int .i64 nx] 25)).alloc (.cells #[.int .i64 0, .slice none 0 0, .slice none 0 0] 41) = wa at *
    have B := Lib.hid b0
    have B1 := Lib.hid b1
    have FR := Lib.hid fr
    clear b0 b1 fr
    refine (HPL.out _ FR.out).mono ?_
    rintro e w3 ⟨rfl, f3⟩
    have z0 := (B.out.frame f3 (by simp)).at 0 rfl
    have b3 := B1.out.frame f3 (by simp)
    have y0 := b3.at 0 rfl
    have y1 := b3.at 1 rfl
    have y2 := b3.at 2 rfl
    have r0 := b3.frozen 0
    have r1 := b3.frozen 1
    have r2 := b3.frozen 2
    have B3 := Lib.hid b3
    have F3 := Lib.hid (FR.out.trans1 f3)
    clear f3 b3
    go_wp2_with fail
    refine bodyPost_ret (v := .tuple #[.agg #[.int .i64 0, .slice none 0 0, .slice none 0 0], .bool false]) ?_ rfl ⟨.agg #[.int .i64 0, .slice none 0 0, .slice none 0 0], by rw [E.out], ?_, ?_⟩
    · have b9 := ((B3.out.set 0 (.int .i64 0)).set 1 (.slice none 0 0)).set 2 (.slice none 0 0)
      have x0 := b9.at 0 rfl
      have x1 := b9.at 1 rfl
      have x2 := b9.at 2 rfl
      simp [results, Tryz.results38, go_sem, x0, x1, x2]
    · rw [E.out]
      exact ⟨none, 0, none, 0, rfl, RF.nil0 _ _ _ _ _, RF.nil0 _ _ _ _ _⟩
    · exact F3.out.trans ((Frame.setCell (S := [w.heap.size + 1]) _ ⟨w.heap.size + 1, 0, none⟩ _ (by simp)).trans1 ((Frame.setCell _ ⟨w.heap.size + 1, 1, none⟩ _ (by simp)).trans1 (Frame.setCell _ ⟨w.heap.size + 1, 2, none⟩ _ (by simp)))) (fun x hx => by simp at hx; subst hx; right; omega)
  obtain ⟨hpr, hrk⟩ := placeV_rank hu ht
  have hnk : ns[rank (ns.map (·.1)) t]? = some (ns[rank (ns.map (·.1)) t]'hrk) := by simp
  generalize ns[rank (ns.map (·.1)) t]'hrk = n at hnk
  have E : Hid (nodeOf ns t = (n, true)) := by show _ = _; unfold nodeOf; rw [if_pos ht, hnk]
  rw [hpr] at HPL
  generalize rank (ns.map (·.1)) t = r at *
  have HK := Lib.hid hnk
  clear ht hu hpr hnk
  go_enter Tryz.func38, Tryz.ntmps38
  go_wp2_with fail
  have fr : Frame [] w ((w.alloc (.cells #[.slice an ns.length nc, .slice ae en ec, .int .i64 nx] 25)).alloc (.cells #[.int .i64 0, .slice none 0 0, .slice none 0 0] 41)) := (Frame.alloc _ _ _).trans1 (Frame.alloc _ _ _)
  have b0 := (Blk.new w 25 #[.slice an ns.length nc, .slice ae en ec, .int .i64 nx]).alloc (.cells #[.int .i64 0, .slice none 0 0, .slice none 0 0] 41)
  have b1 := Blk.new (w.alloc (.cells #[.slice an ns.length nc, .slice ae en ec, .int .i64 nx] 25)) 41 #[.int .i64 0, .slice none 0 0, .slice none 0 0]
  simp only [World.size_alloc] at b1
  generalize (w.alloc (.cells #[.slice an ns.length nc, .slice ae en ec, .int .i64 nx] 25)).alloc (.cells #[.int .i64 0, .slice none 0 0, .slice none 0 0] 41) = wa at *
  have B := Lib.hid b0
  have B1 := Lib.hid b1
  have FR := Lib.hid fr
  clear b0 b1 fr
  refine (HPL.out _ FR.out).mono ?_
  rintro e w3 ⟨rfl, f3⟩
  have z0 := (B.out.frame f3 (by simp)).at 0 rfl
  have b3 := B1.out.frame f3 (by simp)
  have y0 := b3.at 0 rfl
  have y1 := b3.at 1 rfl
  have y2 := b3.at 2 rfl
  have r0 := b3.frozen 0
  have r1 := b3.frozen 1
  have r2 := b3.frozen 2
  have B3 := Lib.hid b3
  have F3 := Lib.hid (FR.out.trans1 f3)
  clear f3 b3
  obtain ⟨b, off, la, lc, pa, pc, rfl, -, q0, q1, q2, q3, q4⟩ := H.out r n HK.out
  replace q0 := F3.out.cell q0 (by simp)
  replace q1 := F3.out.cell q1 (by simp)
  replace q2 := F3.out.cell q2 (by simp)
  have Q := Lib.hid (And.intro q3 q4)
  clear q3 q4
  go_wp2_with fail
  refine bodyPost_ret (v := .tuple #[.agg #[.int .i64 n.1, .slice la n.2.1.length lc, .slice pa n.2.2.length pc], .bool true]) ?_ rfl ⟨.agg #[.int .i64 n.1, .slice la n.2.1.length lc, .slice pa n.2.2.length pc], by rw [E.out], ?_, ?_⟩
  · have b9 := ((B3.out.set 0 (.int .i64 n.1)).set 1 (.slice la n.2.1.length lc)).set 2 (.slice pa n.2.2.length pc)
    have x0 := b9.at 0 rfl
    have x1 := b9.at 1 rfl
    have x2 := b9.at 2 rfl
    simp [results, Tryz.results38, go_sem, x0, x1, x2]
  · rw [E.out]
    have fw : ∀ u v t, Frame [] w (((w3.setCell ⟨w.heap.size + 1, 0, none⟩ u).setCell ⟨w.heap.size + 1, 1, none⟩ v).setCell ⟨w.heap.size + 1, 2, none⟩ t) := fun u v t => F3.out.trans ((Frame.setCell (S := [w.heap.size + 1]) _ ⟨w.heap.size + 1, 0, none⟩ _ (by simp)).trans1 ((Frame.setCell _ ⟨w.heap.size + 1, 1, none⟩ _ (by simp)).trans1 (Frame.setCell _ ⟨w.heap.size + 1, 2, none⟩ _ (by simp)))) (fun x hx => by simp at hx; subst hx; right; omega)
    exact ⟨la, lc, pa, pc, rfl, Q.out.1.frame0 (fw _ _ _), Q.out.2.frame0 (fw _ _ _)⟩
  · exact F3.out.trans ((Frame.setCell (S := [w.heap.size + 1]) _ ⟨w.heap.size + 1, 0, none⟩ _ (by simp)).trans1 ((Frame.setCell _ ⟨w.heap.size + 1, 1, none⟩ _ (by simp)).trans1 (Frame.setCell _ ⟨w.heap.size + 1, 2, none⟩ _ (by simp)))) (fun x hx => by simp at hx; subst hx; right; omega)
end Go.Proofs.YtjcajidgaejhoaaGreat

namespace Go.Proofs.YtjcajidgaejhoaaGreat
open Go.RowKit
set_option linter.unusedSimpArgs false
set_option linter.unusedVariables false

end Go.Proofs.YtjcajidgaejhoaaGreat

namespace Go.Proofs.YtjcajidgaejhoaaGreat
open Go.RowKit
set_option linter.unusedSimpArgs false
set_option linter.unusedVariables false

/-- Does a node carry the filter's text? -/
def carries (n : Nv) (pr : Bool) (nm vl : ByteArray) : Bool := if pr = true then n.2.2.any (fun p => decide (p.name = nm ∧ p.val = vl)) else memS nm n.2.1
def holdsV (ns : List Nv) (t : Int) (pr : Bool) (nm vl : ByteArray) : Bool := (nodeOf ns t).2 && carries (nodeOf ns t).1 pr nm vl

set_option maxHeartbeats 8000000 in
set_option maxRecDepth 100000 in
theorem rholds_any (U : Nat → Prop) (an ae : Option Addr) (nc en ec : Nat) (ns : List Nv) (nx t : Int) (vr nm vl : ByteArray) (pr : Bool) (w : World) (h : RN U w an ns) (hu : Up (ns.map (·.1))) (hl : ns.length ≤ 1000000) (hok : (nodeOf ns t).1.2.1.length ≤ 1000000 ∧ (nodeOf ns t).1.2.2.length ≤ 1000000) :
    Calls Tryz.prog 11 #[.agg #[.slice an ns.length nc, .slice ae en ec, .int .i64 nx], .int .i64 t, .agg #[.string vr, .bool pr, .string nm, .string vl]] w fun e w' => e = .returned (.bool (holdsV ns t pr nm vl)) ∧ Frame [] w w' := by
  have HND := Lib.hid (fun w' (f : Frame [] w w') => rnode_any U an ae nc en ec ns nx t w' (h.frame0 f) hu hl)
  have HOK := Lib.hid hok
  clear h hu hok
  unfold holdsV
  have HN : Hid (∀ w', Frame [] w w' → Calls Tryz.prog 38 #[.agg #[.slice an ns.length nc, .slice ae en ec, .int .i64 nx], .int .i64 t] w' fun e w'' => ∃ x, e = .returned (.tuple #[x, .bool (nodeOf ns t).2]) ∧ NdIs U w'' x (nodeOf ns t).1 ∧ Frame [] w' w'') := Lib.hid (fun w' f => HND.out w' f)
  clear HND
  generalize nodeOf ns t = nb at *
  obtain ⟨n, ok⟩ := nb
  simp only at HN HOK ⊢
  have h1l := HOK.out.1
  have h2l := HOK.out.2
  go_enter Tryz.func11, Tryz.ntmps11
  go_wp2_with fail
  have fr : Frame [] w ((w.alloc (.cells #[.slice an ns.length nc, .slice ae en ec, .int .i64 nx] 25)).alloc (.cells #[.string vr, .bool pr, .string nm, .string vl] 27)) := (Frame.alloc _ _ _).trans1 (Frame.alloc _ _ _)
  have b1 := Blk.new (w.alloc (.cells #[.slice an ns.length nc, .slice ae en ec, .int .i64 nx] 25)) 27 #[.string vr, .bool pr, .string nm, .string vl]
  simp only [World.size_alloc] at b1
  generalize (w.alloc (.cells #[.slice an ns.length nc, .slice ae en ec, .int .i64 nx] 25)).alloc (.cells #[.string vr, .bool pr, .string nm, .string vl] 27) = wa at *
  generalize w.heap.size + 1 = fb at *
  have B1 := Lib.hid b1
  have FR := Lib.hid fr
  clear b1 fr
  refine (HN.out _ FR.out).mono ?_
  rintro e w3 ⟨x, rfl, ⟨la, lc, pa, pc, rfl, q3, q4⟩, f3⟩
  have Q := Lib.hid (And.intro q3 q4)
  have F3 := Lib.hid (FR.out.trans1 f3)
  have B3 := Lib.hid (B1.out.frame f3 (by simp))
  clear q3 q4 f3
  cases ok with
  | false =>
    go_wp2_with fail
    go_ret
    exact ⟨rfl, F3.out.trans1 (by (repeat first | assumption | exact Frame.refl _ _ | refine Frame.trans1 ?_ (Frame.alloc _ _ _) | refine Frame.trans1 ?_ (Frame.drew _ _) | refine Frame.trans1 ?_ (Frame.drewN _ _ _)))⟩
  | true =>
    simp only [Bool.true_and]
    have CF : ∀ o, (w3.alloc o).cell? ⟨fb, 1, none⟩ = some (.bool pr) := fun o => (B3.out.alloc o).at 1 rfl
    have CN : ∀ o, (w3.alloc o).cell? ⟨fb, 2, none⟩ = some (.string nm) := fun o => (B3.out.alloc o).at 2 rfl
    have IN : Hid (∀ o, Calls Tryz.prog 39 #[.slice la n.2.1.length lc, .string nm] (w3.alloc o) (InEnd (nm ∈ n.2.1) (w3.alloc o))) := Lib.hid (fun o => in_any U la lc n.2.1 nm (w3.alloc o) (Q.out.1.frame0 (Frame.alloc _ _ _)) h1l)
    cases pr with
    | false =>
      go_wp2_with fail
      refine (IN.out _).mono ?_
      rintro e w5 ⟨i, rfl, hi, f5⟩
      have HI := Lib.hid (And.intro hi f5)
      clear hi f5
      go_wp2_with fail
      go_ret
      have E : carries n false nm vl = decide (0 ≤ i) := by
        unfold carries
        rw [if_neg (by simp)]
        by_cases hm : nm ∈ n.2.1
        · rw [memS_iff.2 hm]; exact (decide_eq_true (HI.out.1.2 hm)).symm
        · rw [memS_not.2 hm]; exact (decide_eq_false (fun h => hm (HI.out.1.1 h))).symm
      exact ⟨by rw [Bool.true_and, E]; rfl, (F3.out.trans1 (Frame.alloc _ _ _)).trans1 HI.out.2⟩
    | true =>
      go_wp2_with fail
      have fn := F3.out.trans1 (Frame.alloc [] w3 (.cells #[.int .i64 n.1, .slice la n.2.1.length lc, .slice pa n.2.2.length pc] 41))
      have bn := Blk.new w3 41 #[.int .i64 n.1, .slice la n.2.1.length lc, .slice pa n.2.2.length pc]
      have bf := B3.out.alloc (.cells #[.int .i64 n.1, .slice la n.2.1.length lc, .slice pa n.2.2.length pc] 41)
      have qp := Q.out.2.frame0 (Frame.alloc [] w3 (.cells #[.int .i64 n.1, .slice la n.2.1.length lc, .slice pa n.2.2.length pc] 41))
      generalize w3.alloc (.cells #[.int .i64 n.1, .slice la n.2.1.length lc, .slice pa n.2.2.length pc] 41) = wn at *
      generalize w3.heap.size = zb at *
      have FN := Lib.hid fn
      have BN := Lib.hid bn
      have BF := Lib.hid bf
      have QP := Lib.hid qp
      clear fn bn bf qp CF CN IN
      go_loopw [9] (fun i wr => ∃ k : Nat, k ≤ n.2.2.length ∧ i = .int .i64 k ∧ Hid (Frame [] wn wr ∧ ∀ j p, j < k → n.2.2[j]? = some p → ¬ (p.name = nm ∧ p.val = vl))) (fun i _ => n.2.2.length - (intOf i).toNat)
      case atStart => exact ⟨0, Nat.zero_le _, rfl, Frame.refl _ _, fun j _ h => by omega⟩
      case round =>
        obtain ⟨k, hk, rfl, hR⟩ := hrel
        rename World => wo
        have FO := Lib.hid hR.out.1
        have z2 := (BN.out.frame hR.out.1 (by simp)).at 2 rfl
        have y2 := (BF.out.frame hR.out.1 (by simp)).at 2 rfl
        have y3 := (BF.out.frame hR.out.1 (by simp)).at 3 rfl
        by_cases hlt : k < n.2.2.length
        · have g1 : n.2.2[k]? = some n.2.2[k] := by simp [hlt]
          obtain ⟨b, off, rfl, -, q1⟩ := (QP.out.frame0 hR.out.1) k _ g1
          have x0 := q1 0 _ rfl
          have x1 := q1 1 _ rfl
          simp only [Nat.add_zero] at x0
          generalize n.2.2[k] = p at *
          have G1 := Lib.hid g1
          clear g1 q1
          by_cases c1 : p.name = nm
          · have e1 := beq_toList_true c1
            by_cases c2 : p.val = vl
            · have e2 := beq_toList_true c2
              have HX := Lib.hid (And.intro c1 c2)
              clear c1 c2
              go_wp2_with fail
              go_quiet (fail)
              go_wp2_with fail
              go_ret
              have E : carries n true nm vl = true := by
                unfold carries
                rw [if_pos rfl, List.any_eq_true]
                exact ⟨p, List.mem_of_getElem? G1.out, by simpa using HX.out⟩
              exact ⟨by rw [Bool.true_and, E]; rfl, (FN.out.trans1 FO.out).trans1 (by (repeat first | assumption | exact Frame.refl _ _ | refine Frame.trans1 ?_ (Frame.alloc _ _ _) | refine Frame.trans1 ?_ (Frame.drew _ _) | refine Frame.trans1 ?_ (Frame.drewN _ _ _)))⟩
            · have e2 := beq_toList_false c2
              have HX : Hid (¬ (p.name = nm ∧ p.val = vl)) := Lib.hid (fun h => c2 h.2)
              clear c1 c2
              go_wp2_with fail
              go_quiet (fail)
              go_wp2_with fail
              go_roundw
              case rel => exact ⟨k + 1, by omega, by first | rfl | go_num, Lib.hid ⟨hR.out.1.trans1 (by (repeat first | assumption | exact Frame.refl _ _ | refine Frame.trans1 ?_ (Frame.alloc _ _ _) | refine Frame.trans1 ?_ (Frame.drew _ _) | refine Frame.trans1 ?_ (Frame.drewN _ _ _))), fun j m hj hm => by
                rcases Nat.lt_or_ge j k with h | h
                · exact hR.out.2 j m h hm
                · obtain rfl : j = k := by omega
                  have := G1.out.symm.trans hm
                  simp at this
                  subst this
                  exact HX.out⟩⟩
              case measure => first | (simp [intOf]; done) | (simp [intOf]; omega)
          · have e1 := beq_toList_false c1
            have HX : Hid (¬ (p.name = nm ∧ p.val = vl)) := Lib.hid (fun h => c1 h.1)
            clear c1
            go_wp2_with fail
            go_quiet (fail)
            go_wp2_with fail
            go_roundw
            case rel => exact ⟨k + 1, by omega, by first | rfl | go_num, Lib.hid ⟨hR.out.1.trans1 (by (repeat first | assumption | exact Frame.refl _ _ | refine Frame.trans1 ?_ (Frame.alloc _ _ _) | refine Frame.trans1 ?_ (Frame.drew _ _) | refine Frame.trans1 ?_ (Frame.drewN _ _ _))), fun j m hj hm => by
              rcases Nat.lt_or_ge j k with h | h
              · exact hR.out.2 j m h hm
              · obtain rfl : j = k := by omega
                have := G1.out.symm.trans hm
                simp at this
                subst this
                exact HX.out⟩⟩
            case measure => first | (simp [intOf]; done) | (simp [intOf]; omega)
        · obtain rfl : k = n.2.2.length := by omega
          go_wp2_with fail
          go_ret
          have E : carries n true nm vl = false := by
            unfold carries
            rw [if_pos rfl, List.any_eq_false]
            intro p hp
            obtain ⟨j, hj, rfl⟩ := List.getElem_of_mem hp
            have := hR.out.2 j _ hj (List.getElem?_eq_getElem hj)
            simpa using this
          exact ⟨by rw [Bool.true_and, E]; rfl, (FN.out.trans1 FO.out).trans1 (by (repeat first | assumption | exact Frame.refl _ _ | refine Frame.trans1 ?_ (Frame.alloc _ _ _) | refine Frame.trans1 ?_ (Frame.drew _ _) | refine Frame.trans1 ?_ (Frame.drewN _ _ _)))⟩
end Go.Proofs.YtjcajidgaejhoaaGreat

namespace Go.Proofs.YtjcajidgaejhoaaGreat
open Go.RowKit
set_option linter.unusedSimpArgs false
set_option linter.unusedVariables false

theorem any_prop {ps : List Pr} {nm vl : ByteArray} : (ps.any (fun p => decide (p.name = nm ∧ p.val = vl))) = true ↔ (⟨nm, vl⟩ : Pr) ∈ ps := by
  rw [List.any_eq_true]
  constructor
  · rintro ⟨⟨a, b⟩, h1, h2⟩
    have : a = nm ∧ b = vl := by simpa using h2
    obtain ⟨rfl, rfl⟩ := this
    exact h1
  · exact fun h => ⟨_, h, by simp⟩
set_option maxHeartbeats 8000000 in
set_option maxRecDepth 100000 in
theorem gholds_any {w : World} {pb : Nat} {F : List Nat} {ns : List Nv} {es : List Ed} {given : Int} (h : GV w pb F ns es given) (hv : VOk ns) (t : Int) (vr nm vl : ByteArray) (pr : Bool) :
    Calls Tryz.prog 23 #[.pointer (some ⟨pb, 0, none⟩), .int .i64 t, .agg #[.string vr, .bool pr, .string nm, .string vl]] w fun e w' => e = .returned (.bool (holdsV ns t pr nm vl)) ∧ Frame [] w w' := by
  obtain ⟨rs, hg, hns⟩ := h
  have hu := hv.up
  have hids : (rs.map (·.nd)).map (·.id) = ns.map (·.1) := by rw [← hns, List.map_map, List.map_map]; rfl
  have hl : rs.length = ns.length := by rw [← hns, List.length_map]
  have hn12 := hv.len
  have HFD := Lib.hid (fun w' (f : Frame [] w w') => gg_find hg (by rw [hids]; exact hu) (by omega) t w' f)
  rw [hids] at HFD
  obtain ⟨FG, ⟨an, nc, ae, ec, G, H, hb, sn, se, n1, n2, n3, rfl⟩, h2, h3, rfl⟩ := hg
  rw [List.length_map, hl] at hb
  have HB := Lib.hid hb
  have SN := Lib.hid sn
  have H2 := Lib.hid h2
  have hlt := hb.lt
  clear hb sn se h2 h3 n1 n2 n3 hids
  by_cases ht : t ∈ ns.map (·.1)
  case neg =>
    have E : Hid (holdsV ns t pr nm vl = false) := by show _ = _; unfold holdsV nodeOf; rw [if_neg ht]; rfl
    rw [decide_eq_false ht] at HFD
    clear ht hu hv
    generalize rank (ns.map (·.1)) t = r at *
    go_enter Tryz.func23, Tryz.ntmps23
    go_wp2_with fail
    have fr := Frame.alloc [] w (.cells #[.string vr, .bool pr, .string nm, .string vl] 27)
    have b1 := Blk.new w 27 #[.string vr, .bool pr, .string nm, .string vl]
    generalize w.alloc (.cells #[.string vr, .bool pr, .string nm, .string vl] 27) = wa at *
    generalize w.heap.size = fb at *
    have B1 := Lib.hid b1
    have FR := Lib.hid fr
    clear b1 fr
    refine (HFD.out _ FR.out).mono ?_
    rintro e w3 ⟨rfl, f3⟩
    have F3 := Lib.hid (FR.out.trans1 f3)
    clear f3
    go_wp2_with fail
    go_ret
    exact ⟨by rw [E.out]; rfl, F3.out.trans1 (by (repeat first | assumption | exact Frame.refl _ _ | refine Frame.trans1 ?_ (Frame.alloc _ _ _) | refine Frame.trans1 ?_ (Frame.drew _ _) | refine Frame.trans1 ?_ (Frame.drewN _ _ _)))⟩
  obtain ⟨-, hrk⟩ := placeV_rank hu ht
  have hrs : rs[rank (ns.map (·.1)) t]? = some (rs[rank (ns.map (·.1)) t]'(by rw [hl]; exact hrk)) := by simp
  generalize rs[rank (ns.map (·.1)) t]'(by rw [hl]; exact hrk) = n at hrs
  have hnk : ns[rank (ns.map (·.1)) t]? = some n.tell := by rw [← hns, List.getElem?_map, hns, hrs]; rfl
  have E : Hid (holdsV ns t pr nm vl = carries n.tell pr nm vl) := by show _ = _; unfold holdsV nodeOf; rw [if_pos ht, hnk]; rfl
  rw [decide_eq_true ht] at HFD
  generalize rank (ns.map (·.1)) t = r at *
  have HRS := Lib.hid hrs
  obtain ⟨⟨e1, e2, e3, e4, -⟩, e5, e6⟩ := H2.out n (List.mem_of_getElem? hrs)
  have CS := Lib.hid (fun w' (f : Frame [] w w') => con_str (fun _ => True) n.nd.la n.nd.lc n.ls nm w' ((e3.rf encS_len (fun _ _ => trivial)).frame0 f) e5 (carries n.tell false nm vl) (by unfold carries; rw [if_neg (by simp)]; exact memS_iff))
  have CP := Lib.hid (fun w' (f : Frame [] w w') => con_prop (fun _ => True) n.nd.pa n.nd.pc n.ps ⟨nm, vl⟩ w' ((e4.rf pr_len (fun _ _ => trivial)).frame0 f) e6 (carries n.tell true nm vl) (by unfold carries; rw [if_pos rfl]; exact any_prop))
  clear ht hu hnk hrs hv e3 e4 e5 e6
  go_enter Tryz.func23, Tryz.ntmps23
  go_wp2_with fail
  have fr := Frame.alloc [] w (.cells #[.string vr, .bool pr, .string nm, .string vl] 27)
  have b1 := Blk.new w 27 #[.string vr, .bool pr, .string nm, .string vl]
  generalize w.alloc (.cells #[.string vr, .bool pr, .string nm, .string vl] 27) = wa at *
  generalize w.heap.size = fb at *
  have B1 := Lib.hid b1
  have FR := Lib.hid fr
  clear b1 fr
  refine (HFD.out _ FR.out).mono ?_
  rintro e w3 ⟨rfl, f3⟩
  have F3 := Lib.hid (FR.out.trans1 f3)
  have CS3 := Lib.hid (fun w' (f : Frame [] w3 w') => CS.out w' (F3.out.trans1 f))
  have CP3 := Lib.hid (fun w' (f : Frame [] w3 w') => CP.out w' (F3.out.trans1 f))
  have hx : (rs.map (·.nd))[r]? = some n.nd := by rw [List.getElem?_map, HRS.out]; rfl
  obtain ⟨b, cap, hv9, -, -, hc⟩ := (SN.out.frame F3.out (by simp)).cell nd_len hx
  injection hv9 with hv1 hv2 hv3
  subst hv1 hv3
  have q1 := hc 1 _ rfl
  have q2 := hc 2 _ rfl
  rw [e1] at q1
  rw [e2] at q2
  have z0 := (HB.out.frame F3.out (by simp)).at 0 rfl
  have b3 := B1.out.frame f3 (by simp)
  have p1 := b3.at 1 rfl
  have p2 := b3.at 2 rfl
  have p3 := b3.at 3 rfl
  have Q1 := framed_cell q1
  have Q2 := framed_cell q2
  have Z0 := framed_cell z0
  have P2 := framed_cell p2
  have P3 := framed_cell p3
  clear f3 b3 hc hv2 hx
  cases pr with
  | false =>
    go_wp2_with fail
    refine wp_region_framed (by kernel_rfl) (by kernel_rfl) ?_
    repeat (go_big_quiet_step ((go_at_call 48; exact framed_of (CS3.out _ (FramedBy.h _)))))
    refine wpQuiet_nil ?_
    intro w6 hw
    have f6 := framed_out hw
    clear hw
    go_wp2_with fail
    go_ret
    exact ⟨by rw [E.out]; rfl, F3.out.trans1 f6⟩
  | true =>
    go_wp2_with fail
    refine wp_region_framed (by kernel_rfl) (by kernel_rfl) ?_
    repeat (go_big_quiet_step ((go_at_call 49; exact framed_of (CP3.out _ (FramedBy.h _)))))
    refine wpQuiet_nil ?_
    intro w6 hw
    have f6 := framed_out hw
    clear hw
    go_wp2_with fail
    go_ret
    exact ⟨by rw [E.out]; rfl, F3.out.trans1 f6⟩
end Go.Proofs.YtjcajidgaejhoaaGreat

