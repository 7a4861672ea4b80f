/- The law CutLeast, walked. (printed by gen_cutleast.py) -/
import Derived.Test.YtoidafgeckhkcaaGreatMl46
import Derived.Test.YtoidafgeckhkcaaGreatMl43
import Derived.Test.YtoidafgeckhkcaaGreatMl44
import Derived.Test.YtoidafgeckhkcaaGreatMl45
namespace Go.Proofs.YtoidafgeckhkcaaGreat
open Go.RowKit
set_option linter.unusedSimpArgs false
set_option linter.unusedVariables false

set_option maxRecDepth 100000 in
theorem cutLeast_out (a : Option Addr) (n cap : Nat) (r : Int) (ta : Option Addr) (tn tc : Nat) (w : World) (h : 60 < n ∨ 40 < tn) (hn : n ≤ 9223372036854775807) (htn : tn ≤ 9223372036854775807) :
    Calls Tryz.prog 4 #[.slice a n cap, .int .i64 r, .slice ta tn tc] w fun e w' => e = .returned (.bool true) ∧ Frame [] w w' := by
  by_cases h1 : 60 < n
  · have d1 : decide ((60 : Int) < n) = true := decide_eq_true (by omega)
    clear h
    go_enter Tryz.func4, Tryz.ntmps4
    go_wp2_with fail
    refine (awake15 _).mono ?_
    rintro e w1 ⟨rfl, f1⟩
    go_wp2_with fail
    go_ret
    exact ⟨rfl, f1⟩
  · have d1 : decide ((60 : Int) < n) = false := decide_eq_false (by omega)
    have d2 : decide ((40 : Int) < tn) = true := decide_eq_true (by omega)
    clear h
    go_enter Tryz.func4, Tryz.ntmps4
    go_wp2_with fail
    refine (awake15 _).mono ?_
    rintro e w1 ⟨rfl, f1⟩
    go_wp2_with fail
    go_ret
    exact ⟨rfl, f1⟩

set_option maxHeartbeats 4000000 in
set_option maxRecDepth 100000 in
theorem cutLeast_in (a : Option Addr) (cap : Nat) (xs : List St3) (r : Int) (ta : Option Addr) (tc : Nat) (ts : List Int) (w : World) (hx : RdS w 3 St3.enc St3.ok a xs) (hl : xs.length ≤ 60) (ht : RdI w ta ts) (htl : ts.length ≤ 40) (hr : okI w r) :
    Calls Tryz.prog 4 #[.slice a xs.length cap, .int .i64 r, .slice ta ts.length tc] w fun e w' => e = .returned (.bool true) ∧ Frame [] w w' := by
  have d1 : decide ((60 : Int) < xs.length) = false := decide_eq_false (by omega)
  have d2 : decide ((40 : Int) < ts.length) = false := decide_eq_false (by omega)
  have MA := Lib.hid (made15_any a cap xs w hx (by omega))
  have hok := gatesM_ok xs
  have HT := Lib.hid ht
  clear hx ht
  generalize gatesM xs = l at *
  have hl1 := hok.len
  have hl2 := hok.two
  have HOK := Lib.hid hok
  clear hok
  go_enter Tryz.func4, Tryz.ntmps4
  go_wp2_with fail
  refine MA.out.mono ?_
  rintro e w2 ⟨pb, rb, rfl, F, F2, s2, r2, f2, n2, -⟩
  obtain ⟨ra, rc, rG, rb1, -, -, -⟩ := r2
  have z0 := rb1.at 0 rfl
  obtain ⟨root, hroot, hrl⟩ := round_nat r l.length (by omega)
  have RA := Lib.hid (fun w => round_any r l.length w (by omega) (by omega) hr.1 hr.2)
  rw [hroot] at RA
  have A := Lib.hid (And.intro s2 f2)
  clear s2 f2 n2 rb1 hroot hr MA
  go_wp2_with fail
  refine (RA.out _).mono ?_
  rintro e wq ⟨rfl, rfl⟩
  clear z0 RA
  have TR := Lib.hid (fun w' (f : Frame [] wq w') a c xs (hx : RdI w' a xs) (hl : xs.length ≤ 1000000) => truth_any pb F l (1000 - l.length) HOK.out.inv root hrl (by omega) a c xs w' (A.out.1.frame0 f) hx hl)
  have EM := Lib.hid (fun w' (f : Frame [] wq w') => cutEmpty_any pb F l (1000 - l.length) HOK.out.inv root hrl (by omega) w' (A.out.1.frame0 f))
  have LS := Lib.hid (cutLeast_any pb F l (1000 - l.length) HOK.out.inv root hrl (by omega) ta tc ts wq A.out.1 (HT.out.frame A.out.2) (by omega))
  have LNO := Lib.hid (leastV_no (l := l) (root := root) (ts := ts))
  have LOK := Lib.hid (leastV_ok HOK.out.inv (root := root) (ts := ts))
  generalize leastV l root ts = L at *
  go_wp2_with fail
  refine LS.out.mono ?_
  rintro e w3 ⟨la, lc, rfl, rl, f3, hlc1, hlc2⟩
  have hlc3 : lc ≤ 9223372036854775807 := by unfold maxLen at hlc2; omega
  clear hlc2
  have R3 := Lib.hid (And.intro rl f3)
  have T3 := Lib.hid (TR.out w3 f3 ta tc ts (HT.out.frame (A.out.2.trans1 f3)) (by omega))
  clear rl f3 LS
  generalize hb : truth l root ts = b at *
  have HB := Lib.hid hb
  clear hb
  go_wp2_with fail
  refine T3.out.mono ?_
  rintro e w4 ⟨rfl, f4⟩
  have R4 := Lib.hid (And.intro (R3.out.1.frame f4) (R3.out.2.trans1 f4))
  clear f4 T3 R3
  cases b with
  | false =>
    obtain rfl := LNO.out rfl
    clear LNO LOK
    go_wp2_with fail
    refine (awake15 _).mono ?_
    rintro e w5 ⟨rfl, f5⟩
    go_wp2_with fail
    go_ret
    exact ⟨rfl, (A.out.2.trans1 R4.out.2).trans1 f5⟩
  | true =>
    have LK := Lib.hid (LOK.out rfl)
    have hLl := LK.out.len
    clear LNO LOK
    have T5 := Lib.hid (fun w' (f : Frame [] w4 w') => TR.out w' (R4.out.2.trans1 f) la lc L (R4.out.1.frame f) (by omega))
    rw [LK.out.yes] at T5
    have S5 := Lib.hid (fun w' (f : Frame [] w4 w') => Ans.yes (subset_any la ta lc tc L ts w' (R4.out.1.frame f) (HT.out.frame ((A.out.2.trans1 R4.out.2).trans1 f)) (by omega) (by omega)) (fun x hx => LK.out.sub x hx))
    have E5 := Lib.hid (fun w' (f : Frame [] w4 w') => EM.out w' (R4.out.2.trans1 f))
    rw [least_empty HOK.out.inv LK.out] at E5
    go_wp2_with fail
    refine (T5.out _ (Frame.refl _ _)).mono ?_
    rintro e w5 ⟨rfl, f5⟩
    go_wp2_with fail
    refine (S5.out _ f5).mono ?_
    rintro e w6 ⟨rfl, f6⟩
    have F6 := Lib.hid (f5.trans1 f6)
    clear f5 f6 T5 S5
    go_wp2_with fail
    refine (E5.out _ F6.out).mono ?_
    rintro e w7 ⟨rfl, f7⟩
    have R7 := Lib.hid (And.intro (R4.out.1.frame (F6.out.trans1 f7)) (R4.out.2.trans1 (F6.out.trans1 f7)))
    clear f7 F6 E5 R4
    generalize hLn : L.length = n at *
    have HLN := Lib.hid hLn
    clear hLn
    have hxx : ((decide (n = 0)) == ((n : Int) == 0)) = true := by
      by_cases h : n = 0
      · subst h; rfl
      · have h2 : ((n : Int) == 0) = false := by simp; omega
        rw [h2, decide_eq_false h]; rfl
    go_wp2_with fail
    go_loopw [11] (fun i wr => ∃ t : Nat, t ≤ n ∧ i = .int .i64 t ∧ Hid (Frame [] w7 wr)) (fun i _ => (n - intOf i).toNat)
    case atStart => exact ⟨0, Nat.zero_le _, rfl, Lib.hid (Frame.refl _ _)⟩
    case round =>
      rename World => wr
      obtain ⟨t, htn, rfl, hR⟩ := hrel
      by_cases hlt : t < n
      · have hxt : L[t]? = some (L[t]'(by rw [HLN.out]; exact hlt)) := List.getElem?_eq_getElem _
        generalize L[t]'(by rw [HLN.out]; exact hlt) = x at hxt
        have hbut := but_at LK.out.up hxt
        have hno := LK.out.need x (List.mem_of_getElem? hxt)
        rw [hbut] at hno
        obtain ⟨lb, lo, rfl, c0⟩ : ∃ b off, la = some ⟨b, off, none⟩ ∧ wr.cell? ⟨b, off + t, none⟩ = some (.int .i64 x) := by
          obtain ⟨hk, hx2⟩ := List.getElem?_eq_some_iff.mp hxt
          rcases R7.out.1.frame hR.out with h | ⟨b, off, h1, _, h3⟩
          · subst h; simp at hk
          · exact ⟨b, off, h1, by rw [h3 t hk, hx2]⟩
        have RL := Lib.hid (R7.out.1.frame hR.out)
        have X := Lib.hid (And.intro hxt hno)
        have e1 : IntKind.i64.wrap ((t : Int) + 1) = (t : Int) + 1 := IntWalk.i64_in _ (by omega)
        obtain ⟨DA, hA, rfd⟩ : ∃ DA : Addr, (if lc = t + 1 then some (⟨lb, lo, none⟩ : Addr) else some ⟨lb, lo + (t + 1), none⟩) = some DA ∧ Hid (∀ w', Frame [] wr w' → RF (fun _ => True) w' 1 encI (some DA) (L.drop (t + 1))) := by
          by_cases hlc : lc = t + 1
          · refine ⟨⟨lb, lo, none⟩, by rw [if_pos hlc], fun w' _ k z hz => ?_⟩
            have := (List.getElem?_eq_some_iff.mp hz).1
            rw [List.length_drop, HLN.out] at this
            omega
          · refine ⟨⟨lb, lo + (t + 1), none⟩, by rw [if_neg hlc], fun w' f k z hz => ?_⟩
            rw [List.getElem?_drop] at hz
            obtain ⟨b, off, h1, h2, h3⟩ := (rdI_rf (RL.out.frame f)) _ _ hz
            simp at h1
            obtain ⟨rfl, rfl⟩ := h1
            exact ⟨lb, lo + (t + 1), rfl, trivial, fun j u hu => by have := h3 j u hu; rw [show lo + (t + 1) + k * 1 + j = lo + (t + 1 + k) * 1 + j by omega]; exact this⟩
        have rft : Hid (∀ w', Frame [] wr w' → RF (fun _ => True) w' 1 encI (some ⟨lb, lo, none⟩) (L.take t)) := fun w' f k z hz => by
          obtain ⟨hk, hz2⟩ := List.getElem?_eq_some_iff.mp hz
          rw [List.getElem_take] at hz2
          rw [List.length_take] at hk
          exact (rdI_rf (RL.out.frame f)) k z (by rw [List.getElem?_eq_getElem (by omega), hz2])
        clear hxt hbut hno
        go_wp2_with fail
        by_cases hp : t = 0
        · have p1 : decide (0 < t) = false := decide_eq_false (by omega)
          have p2 : decide ((0 : Int) < (t : Int)) = false := decide_eq_false (by omega)
          clear hp
          refine wp_region_held_drew (S := fun w' => Frame [] wr w') (by kernel_rfl) (Frame.drew _ _) ?_
          intro hS
          refine wpAnyH_take (i := 0) (oi := ⟨some 77, _, _, _, _, _⟩) (v := ?_) rfl (by kernel_rfl) (by kernel_rfl) (by kernel_rfl) (fun _ _ _ h => h) (Or.inl ⟨by rfl, ?_⟩) hS ?_
          rotate_left
          · intro w hSw
            go_simp <;> with_reducible rfl
          try simp only [Act.put, List.setIfInBounds_toArray, List.set_cons_zero, List.set_cons_succ]
          refine wpAnyH_take (i := 1) (oi := ⟨some 78, _, _, _, _, _⟩) (v := ?_) rfl (by kernel_rfl) (by kernel_rfl) (by kernel_rfl) (fun _ _ _ h => h) (Or.inl ⟨by rfl, ?_⟩) hS ?_
          rotate_left
          · intro w hSw
            go_simp <;> with_reducible rfl
          try simp only [Act.put, List.setIfInBounds_toArray, List.set_cons_zero, List.set_cons_succ]
          refine wpAnyH_take (i := 3) (oi := ⟨some 80, _, _, _, _, _⟩) (v := ?_) rfl (by kernel_rfl) (by kernel_rfl) (by kernel_rfl) (fun _ _ _ h => h) (Or.inl ⟨by rfl, ?_⟩) hS ?_
          rotate_left
          · intro w hSw
            go_simp <;> with_reducible rfl
          try simp only [Act.put, List.setIfInBounds_toArray, List.set_cons_zero, List.set_cons_succ]
          refine wpAnyH_take (i := 4) (oi := ⟨some 81, _, _, _, _, _⟩) (v := ?_) rfl (by kernel_rfl) (by kernel_rfl) (by kernel_rfl) (fun _ _ _ h => h) (Or.inl ⟨by rfl, ?_⟩) hS ?_
          rotate_left
          · intro w hSw
            go_simp <;> with_reducible rfl
          try simp only [Act.put, List.setIfInBounds_toArray, List.set_cons_zero, List.set_cons_succ]
          refine wpAnyH_take (i := 5) (oi := ⟨some 82, _, _, _, _, _⟩) (v := ?_) rfl (by kernel_rfl) (by kernel_rfl) (by kernel_rfl) (fun _ _ _ h => h) (Or.inl ⟨by rfl, ?_⟩) hS ?_
          rotate_left
          · intro w hSw
            go_simp
            rw [if_pos (show t ≤ lc by omega)]
          try simp only [Act.put, List.setIfInBounds_toArray, List.set_cons_zero, List.set_cons_succ]
          refine wpAnyH_take (i := 7) (oi := ⟨some 84, _, _, _, _, _⟩) (v := ?_) rfl (by kernel_rfl) (by kernel_rfl) (by kernel_rfl) (fun _ _ _ h => h) (Or.inl ⟨by rfl, ?_⟩) hS ?_
          rotate_left
          · intro w hSw
            go_simp <;> with_reducible rfl
          try simp only [Act.put, List.setIfInBounds_toArray, List.set_cons_zero, List.set_cons_succ]
          refine wpAnyH_take (i := 8) (oi := ⟨some 85, _, _, _, _, _⟩) (v := ?_) rfl (by kernel_rfl) (by kernel_rfl) (by kernel_rfl) (fun _ _ _ h => h) (Or.inl ⟨by rfl, ?_⟩) hS ?_
          rotate_left
          · intro w hSw
            go_simp <;> with_reducible rfl
          try simp only [Act.put, List.setIfInBounds_toArray, List.set_cons_zero, List.set_cons_succ]
          refine wpAnyH_take (i := 9) (oi := ⟨some 86, _, _, _, _, _⟩) (v := ?_) rfl (by kernel_rfl) (by kernel_rfl) (by kernel_rfl) (fun _ _ _ h => h) (Or.inl ⟨by rfl, ?_⟩) hS ?_
          rotate_left
          · intro w hSw
            go_simp <;> with_reducible rfl
          try simp only [Act.put, List.setIfInBounds_toArray, List.set_cons_zero, List.set_cons_succ]
          refine wpAnyH_take (i := 10) (oi := ⟨some 87, _, _, _, _, _⟩) (v := ?_) rfl (by kernel_rfl) (by kernel_rfl) (by kernel_rfl) (fun _ _ _ h => h) (Or.inl ⟨by rfl, ?_⟩) hS ?_
          rotate_left
          · intro w hSw
            go_simp
            rw [if_pos (show 0 ≤ ((t : Nat) : Int) + 1 ∧ ((t : Nat) : Int) + 1 ≤ (n : Int) by omega)]
          try simp only [Act.put, List.setIfInBounds_toArray, List.set_cons_zero, List.set_cons_succ]
          as_aux_lemma =>
            refine wpAnyH_ready (rs := [2]) (by kernel_rfl) (by simp) ?_
            refine AllReadyH.cons (o := ⟨some 79, _, _, _, _, _⟩) rfl (fun K hK => ?_) AllReadyH.nil
            go_simp
            refine hK.out _ _ (show Frame [] wr _ from by (repeat first | assumption | exact Frame.refl _ _ | refine Frame.trans1 ?_ (Frame.alloc _ _ _) | refine Frame.trans1 ?_ (Frame.drew _ _) | refine Frame.trans1 ?_ (Frame.drewN _ _ _))) (fun hS => ?_)
            clear hK K
            try simp only [Act.put, List.setIfInBounds_toArray, List.set_cons_zero, List.set_cons_succ]
            have sl0 : Sl (wr.alloc (.cells #[] 3)).drew 3 1 encI (.slice (some ⟨wr.heap.size, 0, none⟩) 0 0) [] [wr.heap.size] := (Sl.of_blk (xs := ([] : List Int)) (cap := 0) (Blk.new wr 3 #[]) (Nat.le_refl _) (by unfold maxLen; omega) rfl rfl).frame0 (Frame.drew _ _)
            have SL0 := Lib.hid sl0
            clear sl0
            refine wpAnyH_ready (rs := [6]) (by kernel_rfl) (by simp) ?_
            refine AllReadyH.cons (o := ⟨some 83, _, _, _, _, _⟩) rfl (fun K hK => ?_) AllReadyH.nil
            refine step_append_rf (by rfl) (.tmp 79) (.tmp 82) 23 (by rfl) 3 1 8 _ encI Tryz.underlying23 infoInt rfl (by omega) (.slice (some ⟨wr.heap.size, 0, none⟩) 0 0) [] 0 rfl [wr.heap.size] (by rfl) SL0.out (fun _ => True) _ t _ (L.take t) (by rfl) (rft.out _ (by (repeat first | assumption | exact Frame.refl _ _ | refine Frame.trans1 ?_ (Frame.alloc _ _ _) | refine Frame.trans1 ?_ (Frame.drew _ _) | refine Frame.trans1 ?_ (Frame.drewN _ _ _)))) (by rw [List.length_take]; have := HLN.out; omega) encI_len encI_one t (by omega) (by omega) (by omega) ?_
            intro a5 cap5 w5x G5 sl5 f5 hG5
            have hF5 : Frame [] wr w5x := (show Frame [] wr _ from by (repeat first | assumption | exact Frame.refl _ _ | refine Frame.trans1 ?_ (Frame.alloc _ _ _) | refine Frame.trans1 ?_ (Frame.drew _ _) | refine Frame.trans1 ?_ (Frame.drewN _ _ _))).trans f5 (fun x hx => .inr (by simp at hx; omega))
            have E5 := Lib.hid (And.intro sl5 (And.intro hF5 hG5))
            clear sl5 f5 hG5
            refine hK.out _ _ (hF5) (fun hS => ?_)
            clear hK K
            try simp only [Act.put, List.setIfInBounds_toArray, List.set_cons_zero, List.set_cons_succ]
            refine wpAnyH_ready (rs := [11]) (by kernel_rfl) (by simp) ?_
            refine AllReadyH.cons (o := ⟨some 88, _, _, _, _, _⟩) rfl (fun K hK => ?_) AllReadyH.nil
            refine step_append_rf (by rfl) (.tmp 83) (.tmp 87) 23 (by rfl) 3 1 8 _ encI Tryz.underlying23 infoInt rfl (by omega) (.slice a5 t cap5) ([] ++ L.take t) t (by rw [List.nil_append, List.length_take]; have := HLN.out; omega) G5 (by rfl) E5.out.1 (fun _ => True) _ (n - (t + 1)) _ (L.drop (t + 1)) (by rfl) (rfd.out _ E5.out.2.1) (by rw [List.length_drop, HLN.out]) encI_len encI_one (n - 1) (by omega) (by omega) (by omega) ?_
            intro a6 cap6 w6x G6 sl6 f6 hG6
            have hF6 : Frame [] wr w6x := E5.out.2.1.trans f6 (fun x hx => by rcases E5.out.2.2 x hx with h | h; exact .inr (by simp at h; omega); exact .inr (Nat.le_trans (show Frame [] wr _ from by (repeat first | assumption | exact Frame.refl _ _ | refine Frame.trans1 ?_ (Frame.alloc _ _ _) | refine Frame.trans1 ?_ (Frame.drew _ _) | refine Frame.trans1 ?_ (Frame.drewN _ _ _))).size h))
            have t6 := TR.out w6x ((R7.out.2.trans1 hR.out).trans1 hF6) a6 cap6 _ (sl_rdI sl6) (by rw [List.nil_append, List.length_append, List.length_take, List.length_drop, HLN.out]; omega)
            rw [List.nil_append] at t6
            rw [show (L.take t ++ L.drop (t + 1)).length = n - 1 from by rw [List.length_append, List.length_take, List.length_drop, HLN.out]; omega, X.out.2] at t6
            have T6 := Lib.hid t6
            have F6 := Lib.hid hF6
            clear sl6 f6 hG6 t6
            refine hK.out _ _ (hF6) (fun hS => ?_)
            clear hK K
            try simp only [Act.put, List.setIfInBounds_toArray, List.set_cons_zero, List.set_cons_succ]
            refine wpAnyH_ready (rs := [12]) (by kernel_rfl) (by simp) ?_
            refine AllReadyH.cons (o := ⟨some 89, _, _, _, _, _⟩) rfl (fun K hK => ?_) AllReadyH.nil
            go_simp
            refine T6.out.mono ?_
            rintro e w7x ⟨rfl, f7⟩
            have hF7 : Frame [] wr w7x := F6.out.trans1 f7
            clear f7
            refine hK.out _ _ (hF7) (fun hS => ?_)
            clear hK K
            try simp only [Act.put, List.setIfInBounds_toArray, List.set_cons_zero, List.set_cons_succ]
            refine wpAnyH_take (i := 13) (oi := ⟨some 90, _, _, _, _, _⟩) (v := ?_) rfl (by kernel_rfl) (by kernel_rfl) (by kernel_rfl) (fun _ _ _ h => h) (Or.inl ⟨by rfl, ?_⟩) hS ?_
            rotate_left
            · intro w hSw
              go_simp <;> with_reducible rfl
            try simp only [Act.put, List.setIfInBounds_toArray, List.set_cons_zero, List.set_cons_succ]
            refine wpAnyH_take (i := 14) (oi := ⟨some 91, _, _, _, _, _⟩) (v := ?_) rfl (by kernel_rfl) (by kernel_rfl) (by kernel_rfl) (fun _ _ _ h => h) (Or.inl ⟨by rfl, ?_⟩) hS ?_
            rotate_left
            · intro w hSw
              go_simp <;> with_reducible rfl
            try simp only [Act.put, List.setIfInBounds_toArray, List.set_cons_zero, List.set_cons_succ]
            refine wpAnyH_take (i := 15) (oi := ⟨some 92, _, _, _, _, _⟩) (v := ?_) rfl (by kernel_rfl) (by kernel_rfl) (by kernel_rfl) (fun _ _ _ h => h) (Or.inl ⟨by rfl, ?_⟩) hS ?_
            rotate_left
            · intro w hSw
              go_simp <;> with_reducible rfl
            try simp only [Act.put, List.setIfInBounds_toArray, List.set_cons_zero, List.set_cons_succ]
            refine wpAnyH_take (i := 16) (oi := ⟨some 93, _, _, _, _, _⟩) (v := ?_) rfl (by kernel_rfl) (by kernel_rfl) (by kernel_rfl) (fun _ _ _ h => h) (Or.inl ⟨by rfl, ?_⟩) hS ?_
            rotate_left
            · intro w hSw
              go_simp <;> with_reducible rfl
            try simp only [Act.put, List.setIfInBounds_toArray, List.set_cons_zero, List.set_cons_succ]
            refine wpAnyH_take (i := 17) (oi := ⟨some 94, _, _, _, _, _⟩) (v := undef) rfl (by kernel_rfl) (by kernel_rfl) (by kernel_rfl) (fun _ _ _ h => h) (Or.inr ⟨by rfl, rfl⟩) hS ?_
            try simp only [Act.put, List.setIfInBounds_toArray, List.set_cons_zero, List.set_cons_succ]
            refine wpAnyH_take (i := 18) (oi := ⟨some 95, _, _, _, _, _⟩) (v := undef) rfl (by kernel_rfl) (by kernel_rfl) (by kernel_rfl) (fun _ _ _ h => h) (Or.inr ⟨by rfl, rfl⟩) hS ?_
            try simp only [Act.put, List.setIfInBounds_toArray, List.set_cons_zero, List.set_cons_succ]
            refine wpAnyH_take (i := 19) (oi := ⟨some 96, _, _, _, _, _⟩) (v := undef) rfl (by kernel_rfl) (by kernel_rfl) (by kernel_rfl) (fun _ _ _ h => h) (Or.inr ⟨by rfl, rfl⟩) hS ?_
            try simp only [Act.put, List.setIfInBounds_toArray, List.set_cons_zero, List.set_cons_succ]
            refine wpAnyH_take (i := 20) (oi := ⟨some 97, _, _, _, _, _⟩) (v := undef) rfl (by kernel_rfl) (by kernel_rfl) (by kernel_rfl) (fun _ _ _ h => h) (Or.inr ⟨by rfl, rfl⟩) hS ?_
            try simp only [Act.put, List.setIfInBounds_toArray, List.set_cons_zero, List.set_cons_succ]
            refine wpAnyH_take (i := 21) (oi := ⟨some 98, _, _, _, _, _⟩) (v := undef) rfl (by kernel_rfl) (by kernel_rfl) (by kernel_rfl) (fun _ _ _ h => h) (Or.inr ⟨by rfl, rfl⟩) hS ?_
            try simp only [Act.put, List.setIfInBounds_toArray, List.set_cons_zero, List.set_cons_succ]
            refine wpAnyH_take (i := 22) (oi := ⟨some 99, _, _, _, _, _⟩) (v := undef) rfl (by kernel_rfl) (by kernel_rfl) (by kernel_rfl) (fun _ _ _ h => h) (Or.inr ⟨by rfl, rfl⟩) hS ?_
            try simp only [Act.put, List.setIfInBounds_toArray, List.set_cons_zero, List.set_cons_succ]
            refine wpAnyH_take (i := 23) (oi := ⟨some 100, _, _, _, _, _⟩) (v := undef) rfl (by kernel_rfl) (by kernel_rfl) (by kernel_rfl) (fun _ _ _ h => h) (Or.inr ⟨by rfl, rfl⟩) hS ?_
            try simp only [Act.put, List.setIfInBounds_toArray, List.set_cons_zero, List.set_cons_succ]
            refine wpAnyH_take (i := 24) (oi := ⟨some 101, _, _, _, _, _⟩) (v := undef) rfl (by kernel_rfl) (by kernel_rfl) (by kernel_rfl) (fun _ _ _ h => h) (Or.inr ⟨by rfl, rfl⟩) hS ?_
            try simp only [Act.put, List.setIfInBounds_toArray, List.set_cons_zero, List.set_cons_succ]
            refine wpAnyH_take (i := 25) (oi := ⟨some 102, _, _, _, _, _⟩) (v := undef) rfl (by kernel_rfl) (by kernel_rfl) (by kernel_rfl) (fun _ _ _ h => h) (Or.inr ⟨by rfl, rfl⟩) hS ?_
            try simp only [Act.put, List.setIfInBounds_toArray, List.set_cons_zero, List.set_cons_succ]
            refine wpAnyH_take (i := 26) (oi := ⟨some 103, _, _, _, _, _⟩) (v := undef) rfl (by kernel_rfl) (by kernel_rfl) (by kernel_rfl) (fun _ _ _ h => h) (Or.inr ⟨by rfl, rfl⟩) hS ?_
            try simp only [Act.put, List.setIfInBounds_toArray, List.set_cons_zero, List.set_cons_succ]
            refine wpAnyH_take (i := 27) (oi := ⟨some 104, _, _, _, _, _⟩) (v := ?_) rfl (by kernel_rfl) (by kernel_rfl) (by kernel_rfl) (fun _ _ _ h => h) (Or.inl ⟨by rfl, ?_⟩) hS ?_
            rotate_left
            · intro w hSw
              go_simp <;> with_reducible rfl
            try simp only [Act.put, List.setIfInBounds_toArray, List.set_cons_zero, List.set_cons_succ]
            refine wpAnyH_take (i := 28) (oi := ⟨some 105, _, _, _, _, _⟩) (v := ?_) rfl (by kernel_rfl) (by kernel_rfl) (by kernel_rfl) (fun _ _ _ h => h) (Or.inl ⟨by rfl, ?_⟩) hS ?_
            rotate_left
            · intro w hSw
              go_simp <;> with_reducible rfl
            try simp only [Act.put, List.setIfInBounds_toArray, List.set_cons_zero, List.set_cons_succ]
            refine wpAnyH_done (by kernel_rfl) ?_ _
            have F7 := Lib.hid hF7
            clear hF7 hF6 hF5 hS
            go_wp2_with fail
            go_roundw
            case rel => exact ⟨t + 1, by omega, by first | rfl | go_num, Lib.hid (hR.out.trans1 F7.out)⟩
            case measure => first | (simp [intOf]; done) | (simp [intOf]; omega)
        · obtain ⟨m, hm⟩ : ∃ m, t = m + 1 := ⟨t - 1, by omega⟩
          have hxm : L[m]? = some (L[m]'(by rw [HLN.out]; omega)) := List.getElem?_eq_getElem _
          generalize L[m]'(by rw [HLN.out]; omega) = y at hxm
          have hyx : y < x := by
            obtain ⟨h1, rfl⟩ := List.getElem?_eq_some_iff.mp hxm
            obtain ⟨h2, rfl⟩ := List.getElem?_eq_some_iff.mp X.out.1
            exact List.pairwise_iff_getElem.mp LK.out.up m t h1 h2 (by omega)
          have c1 : wr.cell? ⟨lb, lo + m, none⟩ = some (.int .i64 y) := by
            obtain ⟨h1, rfl⟩ := List.getElem?_eq_some_iff.mp hxm
            rcases RL.out with h | ⟨b, off, h3, _, h4⟩
            · rw [h] at h1; simp at h1
            · simp at h3
              obtain ⟨rfl, rfl⟩ := h3
              exact h4 m h1
          have M0 : ∀ w', Frame [] wr w' → w'.cell? ⟨lb, lo + t, none⟩ = some (.int .i64 x) := fun w' q => q.cell c0 (by simp)
          have M1 : ∀ w', Frame [] wr w' → w'.cell? ⟨lb, lo + m, none⟩ = some (.int .i64 y) := fun w' q => q.cell c1 (by simp)
          have p1 : decide (0 < t) = true := decide_eq_true (by omega)
          have p2 : decide ((0 : Int) < (t : Int)) = true := decide_eq_true (by omega)
          have p3 : decide (x ≤ y) = false := decide_eq_false (by omega)
          have e2 : IntKind.i64.wrap ((t : Int) - 1) = (m : Int) := by rw [show ((t : Int) - 1) = (m : Int) from by omega]; exact IntWalk.i64_in _ (by omega)
          have hmn : m < n := by omega
          clear hp hxm hyx c1 c0 hm
          refine wp_region_held_drew (S := fun w' => Frame [] wr w') (by kernel_rfl) (Frame.drew _ _) ?_
          intro hS
          refine wpAnyH_take (i := 0) (oi := ⟨some 77, _, _, _, _, _⟩) (v := ?_) rfl (by kernel_rfl) (by kernel_rfl) (by kernel_rfl) (fun _ _ _ h => h) (Or.inl ⟨by rfl, ?_⟩) hS ?_
          rotate_left
          · intro w hSw
            go_simp <;> with_reducible rfl
          try simp only [Act.put, List.setIfInBounds_toArray, List.set_cons_zero, List.set_cons_succ]
          refine wpAnyH_take (i := 1) (oi := ⟨some 78, _, _, _, _, _⟩) (v := ?_) rfl (by kernel_rfl) (by kernel_rfl) (by kernel_rfl) (fun _ _ _ h => h) (Or.inl ⟨by rfl, ?_⟩) hS ?_
          rotate_left
          · intro w hSw
            go_simp <;> with_reducible rfl
          try simp only [Act.put, List.setIfInBounds_toArray, List.set_cons_zero, List.set_cons_succ]
          refine wpAnyH_take (i := 3) (oi := ⟨some 80, _, _, _, _, _⟩) (v := ?_) rfl (by kernel_rfl) (by kernel_rfl) (by kernel_rfl) (fun _ _ _ h => h) (Or.inl ⟨by rfl, ?_⟩) hS ?_
          rotate_left
          · intro w hSw
            go_simp <;> with_reducible rfl
          try simp only [Act.put, List.setIfInBounds_toArray, List.set_cons_zero, List.set_cons_succ]
          refine wpAnyH_take (i := 4) (oi := ⟨some 81, _, _, _, _, _⟩) (v := ?_) rfl (by kernel_rfl) (by kernel_rfl) (by kernel_rfl) (fun _ _ _ h => h) (Or.inl ⟨by rfl, ?_⟩) hS ?_
          rotate_left
          · intro w hSw
            go_simp <;> with_reducible rfl
          try simp only [Act.put, List.setIfInBounds_toArray, List.set_cons_zero, List.set_cons_succ]
          refine wpAnyH_take (i := 5) (oi := ⟨some 82, _, _, _, _, _⟩) (v := ?_) rfl (by kernel_rfl) (by kernel_rfl) (by kernel_rfl) (fun _ _ _ h => h) (Or.inl ⟨by rfl, ?_⟩) hS ?_
          rotate_left
          · intro w hSw
            go_simp
            rw [if_pos (show t ≤ lc by omega)]
          try simp only [Act.put, List.setIfInBounds_toArray, List.set_cons_zero, List.set_cons_succ]
          refine wpAnyH_take (i := 7) (oi := ⟨some 84, _, _, _, _, _⟩) (v := ?_) rfl (by kernel_rfl) (by kernel_rfl) (by kernel_rfl) (fun _ _ _ h => h) (Or.inl ⟨by rfl, ?_⟩) hS ?_
          rotate_left
          · intro w hSw
            go_simp <;> with_reducible rfl
          try simp only [Act.put, List.setIfInBounds_toArray, List.set_cons_zero, List.set_cons_succ]
          refine wpAnyH_take (i := 8) (oi := ⟨some 85, _, _, _, _, _⟩) (v := ?_) rfl (by kernel_rfl) (by kernel_rfl) (by kernel_rfl) (fun _ _ _ h => h) (Or.inl ⟨by rfl, ?_⟩) hS ?_
          rotate_left
          · intro w hSw
            go_simp <;> with_reducible rfl
          try simp only [Act.put, List.setIfInBounds_toArray, List.set_cons_zero, List.set_cons_succ]
          refine wpAnyH_take (i := 9) (oi := ⟨some 86, _, _, _, _, _⟩) (v := ?_) rfl (by kernel_rfl) (by kernel_rfl) (by kernel_rfl) (fun _ _ _ h => h) (Or.inl ⟨by rfl, ?_⟩) hS ?_
          rotate_left
          · intro w hSw
            go_simp <;> with_reducible rfl
          try simp only [Act.put, List.setIfInBounds_toArray, List.set_cons_zero, List.set_cons_succ]
          refine wpAnyH_take (i := 10) (oi := ⟨some 87, _, _, _, _, _⟩) (v := ?_) rfl (by kernel_rfl) (by kernel_rfl) (by kernel_rfl) (fun _ _ _ h => h) (Or.inl ⟨by rfl, ?_⟩) hS ?_
          rotate_left
          · intro w hSw
            go_simp
            rw [if_pos (show 0 ≤ ((t : Nat) : Int) + 1 ∧ ((t : Nat) : Int) + 1 ≤ (n : Int) by omega)]
          try simp only [Act.put, List.setIfInBounds_toArray, List.set_cons_zero, List.set_cons_succ]
          as_aux_lemma =>
            refine wpAnyH_ready (rs := [2]) (by kernel_rfl) (by simp) ?_
            refine AllReadyH.cons (o := ⟨some 79, _, _, _, _, _⟩) rfl (fun K hK => ?_) AllReadyH.nil
            go_simp
            refine hK.out _ _ (show Frame [] wr _ from by (repeat first | assumption | exact Frame.refl _ _ | refine Frame.trans1 ?_ (Frame.alloc _ _ _) | refine Frame.trans1 ?_ (Frame.drew _ _) | refine Frame.trans1 ?_ (Frame.drewN _ _ _))) (fun hS => ?_)
            clear hK K
            try simp only [Act.put, List.setIfInBounds_toArray, List.set_cons_zero, List.set_cons_succ]
            have sl0 : Sl (wr.alloc (.cells #[] 3)).drew 3 1 encI (.slice (some ⟨wr.heap.size, 0, none⟩) 0 0) [] [wr.heap.size] := (Sl.of_blk (xs := ([] : List Int)) (cap := 0) (Blk.new wr 3 #[]) (Nat.le_refl _) (by unfold maxLen; omega) rfl rfl).frame0 (Frame.drew _ _)
            have SL0 := Lib.hid sl0
            clear sl0
            refine wpAnyH_ready (rs := [6]) (by kernel_rfl) (by simp) ?_
            refine AllReadyH.cons (o := ⟨some 83, _, _, _, _, _⟩) rfl (fun K hK => ?_) AllReadyH.nil
            refine step_append_rf (by rfl) (.tmp 79) (.tmp 82) 23 (by rfl) 3 1 8 _ encI Tryz.underlying23 infoInt rfl (by omega) (.slice (some ⟨wr.heap.size, 0, none⟩) 0 0) [] 0 rfl [wr.heap.size] (by rfl) SL0.out (fun _ => True) _ t _ (L.take t) (by rfl) (rft.out _ (by (repeat first | assumption | exact Frame.refl _ _ | refine Frame.trans1 ?_ (Frame.alloc _ _ _) | refine Frame.trans1 ?_ (Frame.drew _ _) | refine Frame.trans1 ?_ (Frame.drewN _ _ _)))) (by rw [List.length_take]; have := HLN.out; omega) encI_len encI_one t (by omega) (by omega) (by omega) ?_
            intro a5 cap5 w5x G5 sl5 f5 hG5
            have hF5 : Frame [] wr w5x := (show Frame [] wr _ from by (repeat first | assumption | exact Frame.refl _ _ | refine Frame.trans1 ?_ (Frame.alloc _ _ _) | refine Frame.trans1 ?_ (Frame.drew _ _) | refine Frame.trans1 ?_ (Frame.drewN _ _ _))).trans f5 (fun x hx => .inr (by simp at hx; omega))
            have E5 := Lib.hid (And.intro sl5 (And.intro hF5 hG5))
            clear sl5 f5 hG5
            refine hK.out _ _ (hF5) (fun hS => ?_)
            clear hK K
            try simp only [Act.put, List.setIfInBounds_toArray, List.set_cons_zero, List.set_cons_succ]
            refine wpAnyH_ready (rs := [11]) (by kernel_rfl) (by simp) ?_
            refine AllReadyH.cons (o := ⟨some 88, _, _, _, _, _⟩) rfl (fun K hK => ?_) AllReadyH.nil
            refine step_append_rf (by rfl) (.tmp 83) (.tmp 87) 23 (by rfl) 3 1 8 _ encI Tryz.underlying23 infoInt rfl (by omega) (.slice a5 t cap5) ([] ++ L.take t) t (by rw [List.nil_append, List.length_take]; have := HLN.out; omega) G5 (by rfl) E5.out.1 (fun _ => True) _ (n - (t + 1)) _ (L.drop (t + 1)) (by rfl) (rfd.out _ E5.out.2.1) (by rw [List.length_drop, HLN.out]) encI_len encI_one (n - 1) (by omega) (by omega) (by omega) ?_
            intro a6 cap6 w6x G6 sl6 f6 hG6
            have hF6 : Frame [] wr w6x := E5.out.2.1.trans f6 (fun x hx => by rcases E5.out.2.2 x hx with h | h; exact .inr (by simp at h; omega); exact .inr (Nat.le_trans (show Frame [] wr _ from by (repeat first | assumption | exact Frame.refl _ _ | refine Frame.trans1 ?_ (Frame.alloc _ _ _) | refine Frame.trans1 ?_ (Frame.drew _ _) | refine Frame.trans1 ?_ (Frame.drewN _ _ _))).size h))
            have t6 := TR.out w6x ((R7.out.2.trans1 hR.out).trans1 hF6) a6 cap6 _ (sl_rdI sl6) (by rw [List.nil_append, List.length_append, List.length_take, List.length_drop, HLN.out]; omega)
            rw [List.nil_append] at t6
            rw [show (L.take t ++ L.drop (t + 1)).length = n - 1 from by rw [List.length_append, List.length_take, List.length_drop, HLN.out]; omega, X.out.2] at t6
            have T6 := Lib.hid t6
            have F6 := Lib.hid hF6
            clear sl6 f6 hG6 t6
            refine hK.out _ _ (hF6) (fun hS => ?_)
            clear hK K
            try simp only [Act.put, List.setIfInBounds_toArray, List.set_cons_zero, List.set_cons_succ]
            refine wpAnyH_ready (rs := [12]) (by kernel_rfl) (by simp) ?_
            refine AllReadyH.cons (o := ⟨some 89, _, _, _, _, _⟩) rfl (fun K hK => ?_) AllReadyH.nil
            go_simp
            refine T6.out.mono ?_
            rintro e w7x ⟨rfl, f7⟩
            have hF7 : Frame [] wr w7x := F6.out.trans1 f7
            clear f7
            refine hK.out _ _ (hF7) (fun hS => ?_)
            clear hK K
            try simp only [Act.put, List.setIfInBounds_toArray, List.set_cons_zero, List.set_cons_succ]
            refine wpAnyH_take (i := 13) (oi := ⟨some 90, _, _, _, _, _⟩) (v := ?_) rfl (by kernel_rfl) (by kernel_rfl) (by kernel_rfl) (fun _ _ _ h => h) (Or.inl ⟨by rfl, ?_⟩) hS ?_
            rotate_left
            · intro w hSw
              go_simp <;> with_reducible rfl
            try simp only [Act.put, List.setIfInBounds_toArray, List.set_cons_zero, List.set_cons_succ]
            refine wpAnyH_take (i := 14) (oi := ⟨some 91, _, _, _, _, _⟩) (v := ?_) rfl (by kernel_rfl) (by kernel_rfl) (by kernel_rfl) (fun _ _ _ h => h) (Or.inl ⟨by rfl, ?_⟩) hS ?_
            rotate_left
            · intro w hSw
              go_simp <;> with_reducible rfl
            try simp only [Act.put, List.setIfInBounds_toArray, List.set_cons_zero, List.set_cons_succ]
            refine wpAnyH_take (i := 15) (oi := ⟨some 92, _, _, _, _, _⟩) (v := ?_) rfl (by kernel_rfl) (by kernel_rfl) (by kernel_rfl) (fun _ _ _ h => h) (Or.inl ⟨by rfl, ?_⟩) hS ?_
            rotate_left
            · intro w hSw
              go_simp <;> with_reducible rfl
            try simp only [Act.put, List.setIfInBounds_toArray, List.set_cons_zero, List.set_cons_succ]
            refine wpAnyH_take (i := 16) (oi := ⟨some 93, _, _, _, _, _⟩) (v := ?_) rfl (by kernel_rfl) (by kernel_rfl) (by kernel_rfl) (fun _ _ _ h => h) (Or.inl ⟨by rfl, ?_⟩) hS ?_
            rotate_left
            · intro w hSw
              go_simp <;> with_reducible rfl
            try simp only [Act.put, List.setIfInBounds_toArray, List.set_cons_zero, List.set_cons_succ]
            refine wpAnyH_take (i := 17) (oi := ⟨some 94, _, _, _, _, _⟩) (v := ?_) rfl (by kernel_rfl) (by kernel_rfl) (by kernel_rfl) (fun _ _ _ h => h) (Or.inl ⟨by rfl, ?_⟩) hS ?_
            rotate_left
            · intro w hSw
              go_simp <;> with_reducible rfl
            try simp only [Act.put, List.setIfInBounds_toArray, List.set_cons_zero, List.set_cons_succ]
            refine wpAnyH_take (i := 18) (oi := ⟨some 95, _, _, _, _, _⟩) (v := ?_) rfl (by kernel_rfl) (by kernel_rfl) (by kernel_rfl) (fun _ _ _ h => h) (Or.inl ⟨by rfl, ?_⟩) hS ?_
            rotate_left
            · intro w hSw
              go_simp <;> with_reducible rfl
            try simp only [Act.put, List.setIfInBounds_toArray, List.set_cons_zero, List.set_cons_succ]
            refine wpAnyH_take (i := 19) (oi := ⟨some 96, _, _, _, _, _⟩) (v := ?_) rfl (by kernel_rfl) (by kernel_rfl) (by kernel_rfl) (fun _ _ _ h => h) (Or.inl ⟨by rfl, ?_⟩) hS ?_
            rotate_left
            · intro w hSw
              go_simp <;> with_reducible rfl
            try simp only [Act.put, List.setIfInBounds_toArray, List.set_cons_zero, List.set_cons_succ]
            refine wpAnyH_take (i := 20) (oi := ⟨some 97, _, _, _, _, _⟩) (v := ?_) rfl (by kernel_rfl) (by kernel_rfl) (by kernel_rfl) (fun _ _ _ h => h) (Or.inl ⟨by rfl, ?_⟩) hS ?_
            rotate_left
            · intro w hSw
              have hm0 := M0 w hSw
              go_simp <;> with_reducible rfl
            try simp only [Act.put, List.setIfInBounds_toArray, List.set_cons_zero, List.set_cons_succ]
            refine wpAnyH_take (i := 21) (oi := ⟨some 98, _, _, _, _, _⟩) (v := ?_) rfl (by kernel_rfl) (by kernel_rfl) (by kernel_rfl) (fun _ _ _ h => h) (Or.inl ⟨by rfl, ?_⟩) hS ?_
            rotate_left
            · intro w hSw
              go_simp <;> with_reducible rfl
            try simp only [Act.put, List.setIfInBounds_toArray, List.set_cons_zero, List.set_cons_succ]
            refine wpAnyH_take (i := 22) (oi := ⟨some 99, _, _, _, _, _⟩) (v := ?_) rfl (by kernel_rfl) (by kernel_rfl) (by kernel_rfl) (fun _ _ _ h => h) (Or.inl ⟨by rfl, ?_⟩) hS ?_
            rotate_left
            · intro w hSw
              go_simp <;> with_reducible rfl
            try simp only [Act.put, List.setIfInBounds_toArray, List.set_cons_zero, List.set_cons_succ]
            refine wpAnyH_take (i := 23) (oi := ⟨some 100, _, _, _, _, _⟩) (v := ?_) rfl (by kernel_rfl) (by kernel_rfl) (by kernel_rfl) (fun _ _ _ h => h) (Or.inl ⟨by rfl, ?_⟩) hS ?_
            rotate_left
            · intro w hSw
              go_simp <;> with_reducible rfl
            try simp only [Act.put, List.setIfInBounds_toArray, List.set_cons_zero, List.set_cons_succ]
            refine wpAnyH_take (i := 24) (oi := ⟨some 101, _, _, _, _, _⟩) (v := ?_) rfl (by kernel_rfl) (by kernel_rfl) (by kernel_rfl) (fun _ _ _ h => h) (Or.inl ⟨by rfl, ?_⟩) hS ?_
            rotate_left
            · intro w hSw
              go_simp <;> with_reducible rfl
            try simp only [Act.put, List.setIfInBounds_toArray, List.set_cons_zero, List.set_cons_succ]
            refine wpAnyH_take (i := 25) (oi := ⟨some 102, _, _, _, _, _⟩) (v := ?_) rfl (by kernel_rfl) (by kernel_rfl) (by kernel_rfl) (fun _ _ _ h => h) (Or.inl ⟨by rfl, ?_⟩) hS ?_
            rotate_left
            · intro w hSw
              have hm0 := M1 w hSw
              go_simp <;> with_reducible rfl
            try simp only [Act.put, List.setIfInBounds_toArray, List.set_cons_zero, List.set_cons_succ]
            refine wpAnyH_take (i := 26) (oi := ⟨some 103, _, _, _, _, _⟩) (v := ?_) rfl (by kernel_rfl) (by kernel_rfl) (by kernel_rfl) (fun _ _ _ h => h) (Or.inl ⟨by rfl, ?_⟩) hS ?_
            rotate_left
            · intro w hSw
              go_simp <;> with_reducible rfl
            try simp only [Act.put, List.setIfInBounds_toArray, List.set_cons_zero, List.set_cons_succ]
            refine wpAnyH_take (i := 27) (oi := ⟨some 104, _, _, _, _, _⟩) (v := ?_) rfl (by kernel_rfl) (by kernel_rfl) (by kernel_rfl) (fun _ _ _ h => h) (Or.inl ⟨by rfl, ?_⟩) hS ?_
            rotate_left
            · intro w hSw
              go_simp <;> with_reducible rfl
            try simp only [Act.put, List.setIfInBounds_toArray, List.set_cons_zero, List.set_cons_succ]
            refine wpAnyH_take (i := 28) (oi := ⟨some 105, _, _, _, _, _⟩) (v := ?_) rfl (by kernel_rfl) (by kernel_rfl) (by kernel_rfl) (fun _ _ _ h => h) (Or.inl ⟨by rfl, ?_⟩) hS ?_
            rotate_left
            · intro w hSw
              go_simp <;> with_reducible rfl
            try simp only [Act.put, List.setIfInBounds_toArray, List.set_cons_zero, List.set_cons_succ]
            refine wpAnyH_done (by kernel_rfl) ?_ _
            have F7 := Lib.hid hF7
            clear hF7 hF6 hF5 hS
            go_wp2_with fail
            go_roundw
            case rel => exact ⟨t + 1, by omega, by first | rfl | go_num, Lib.hid (hR.out.trans1 F7.out)⟩
            case measure => first | (simp [intOf]; done) | (simp [intOf]; omega)

      · obtain rfl : t = n := by omega
        go_wp2_with fail
        refine (awake15 _).mono ?_
        rintro e w9 ⟨rfl, f9⟩
        go_wp2_with fail
        go_ret
        exact ⟨rfl, ((A.out.2.trans1 R7.out.2).trans1 hR.out).trans1 f9⟩
end Go.Proofs.YtoidafgeckhkcaaGreat

