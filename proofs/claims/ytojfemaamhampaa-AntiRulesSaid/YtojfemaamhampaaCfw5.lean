/- slices.CompactFunc by slices.Equal on one's own row of sets: the walk. -/
import Derived.Test.YtojfemaamhampaaCf5
import Derived.Lib.SliceRun
namespace Go.Proofs.Ytojfemaamhampaa
open Go.RowKit
set_option linter.unusedSimpArgs false
set_option linter.unusedVariables false

/-- Half way: what is kept, then what was there. -/
def mid (vs : List SV) (i : Nat) : List SV := dd (vs.take i) ++ vs.drop (dd (vs.take i)).length
theorem mid_len (vs : List SV) {i : Nat} (hi : i ≤ vs.length) : (mid vs i).length = vs.length := by
  have := dd_len_take vs i
  simp [mid]; omega
theorem mid_at (vs : List SV) {i j : Nat} (h : (dd (vs.take i)).length ≤ j) : (mid vs i)[j]? = vs[j]? := by
  unfold mid
  rw [List.getElem?_append_right h, List.getElem?_drop]
  congr 1
  omega
theorem mid_keep {vs : List SV} {i : Nat} {x : SV} (hi : vs[i]? = some x) (hd : dd (vs.take (i + 1)) = dd (vs.take i) ++ [x]) : (mid vs i).set (dd (vs.take i)).length x = mid vs (i + 1) := by
  have hl := dd_len_take vs i
  obtain ⟨h1, _⟩ := List.getElem?_eq_some_iff.1 hi
  unfold mid
  rw [hd, List.set_append_right _ _ (Nat.le_refl _), Nat.sub_self, List.length_append, List.length_singleton, List.append_assoc]
  have : vs.drop (dd (vs.take i)).length = vs[(dd (vs.take i)).length] :: vs.drop ((dd (vs.take i)).length + 1) := List.drop_eq_getElem_cons (by omega)
  rw [this, List.set_cons_zero]
  rfl
theorem mid_skip {vs : List SV} {i : Nat} (hd : dd (vs.take (i + 1)) = dd (vs.take i)) : mid vs i = mid vs (i + 1) := by
  unfold mid; rw [hd]
theorem mid_start {vs : List SV} {k : Nat} (h : dd (vs.take k) = vs.take k) (hk : k ≤ vs.length) : mid vs k = vs := by
  unfold mid
  rw [h, List.length_take, Nat.min_eq_left hk, List.take_append_drop]

set_option maxHeartbeats 8000000 in
set_option maxRecDepth 100000 in
theorem compactF_row (b cap : Nat) (vs : List SV) (w : World) (hx : RowAt w b 22 1 vs.length cap (vs.flatMap encV)) (hok : ∀ s ∈ vs, s.ok (· ∉ [b]) w) (hl : vs.length ≤ 1000000) :
    Calls Try.prog 56 #[.slice (some ⟨b, 0, none⟩) vs.length cap, .func (.func 57) #[] #[]] w fun e w' => e = .returned (.slice (some ⟨b, 0, none⟩) (dd vs).length cap) ∧ RowAt w' b 22 1 (dd vs).length cap ((dd vs).flatMap encV) ∧ Frame [b] w w' := by
  have HX := Lib.hid hx
  have HOK := Lib.hid hok
  have hcap : vs.length ≤ cap ∧ cap ≤ 9223372036854775807 := by
    obtain ⟨cs, h1, h2, h3, _⟩ := hx.blk
    exact ⟨h2, by unfold maxLen at h3; omega⟩
  obtain ⟨hcap, hcap2⟩ := hcap
  have HEQ : Hid (∀ (x y : SV) (w' : World), x ∈ vs → y ∈ vs → Frame [b] w w' → Calls Try.prog 57 #[.slice x.a x.l.length x.c, .slice y.a y.l.length y.c] w' fun e w'' => e = .returned (.bool (decide (x.l = y.l))) ∧ Frame [] w' w'') := fun x y w' hx hy f => by
    have kx := (hok x hx).frame f fun c hc => hc
    have ky := (hok y hy).frame f fun c hc => hc
    exact equal_ints x.a y.a x.c y.c x.l y.l w' kx.rd ky.rd kx.len ky.len
  clear hx hok
  by_cases h2 : vs.length < 2
  · have hdd : Hid (dd vs = vs) := by
      show dd vs = vs
      match vs, h2 with
      | [], _ => rfl
      | [x], _ => rfl
    generalize dd vs = ds at *
    obtain rfl := hdd.out
    go_enter Try.func56, Try.ntmps56
    go_wp2_with fail
    go_ret
    exact ⟨rfl, HX.out, Frame.refl _ _⟩
  · have HDL := Lib.hid (dd_len_take vs)
    have HAT : Hid (dd (vs.take vs.length) = dd vs) := by show dd _ = dd _; rw [List.take_length]
    generalize hds : dd vs = ds at *
    have HDS := Lib.hid hds
    clear hds
    go_enter Try.func56, Try.ntmps56
    go_wp2_with fail
    go_loopw [5] (fun i wr => ∃ m : Nat, m + 1 ≤ vs.length ∧ i = .int .i64 (m + 1 : Nat) ∧ Hid (Frame [] w wr ∧ dd (vs.take (m + 1)) = vs.take (m + 1))) (fun i _ => vs.length - (intOf i).toNat)
    case atStart =>
      refine ⟨0, by omega, by first | rfl | go_num, Frame.refl _ _, ?_⟩
      cases hv : vs with
      | nil => rw [hv] at h2; simp at h2
      | cons x t => rfl
    case round =>
      obtain ⟨m, hm, rfl, hR⟩ := hrel
      rename World => wr
      by_cases hlt : m + 1 < vs.length
      · have g0 : vs[m]? = some vs[m] := by simp
        have g1 : vs[m + 1]? = some vs[m + 1] := by simp [hlt]
        have hmy : vs[m] ∈ vs := List.getElem_mem _
        have hmx : vs[m + 1] ∈ vs := List.getElem_mem _
        have hn := dd_next g0 g1
        generalize vs[m] = y at *
        generalize vs[m + 1] = x at *
        have q0 := framed_cell ((HX.out.frame hR.out.1 (by simp)).atV g0)
        have q1 := framed_cell ((HX.out.frame hR.out.1 (by simp)).atV g1)
        have HN := Lib.hid hn
        have G0 := Lib.hid g0
        have G1 := Lib.hid g1
        have E := Lib.hid (fun w' (f : Frame [] wr w') => HEQ.out x y w' hmx hmy ((hR.out.1.mono (by simp)).trans1 (f.mono (by simp))))
        clear hn g0 g1 hmx hmy
        have e1 : IntKind.i64.wrap (((m + 1 : Nat) : Int) - 1) = (m : Int) := by rw [show (((m + 1 : Nat) : Int) - 1) = (m : Int) from by omega]; exact IntWalk.i64_in _ (by omega)
        by_cases hd : x.l = y.l
        · rw [decide_eq_true hd] at E
          have HD := Lib.hid hd
          clear hd
          go_wp2_with fail
          refine wp_region_framed (by kernel_rfl) (by kernel_rfl) ?_
          repeat (go_big_quiet_step (exact framed_of (E.out _ (FramedBy.h _))))
          refine wpQuiet_nil ?_
          intro w6 hw
          have f6 := framed_out hw
          clear hw
          have hcut : m + 1 ≤ vs.length := hm
          have hcut2 : vs.length ≤ cap := hcap
          go_wp2_with fail
          have F6 := Lib.hid f6
          clear f6
          go_loopw [5, 7] (fun u v wq => ∃ p kk : Nat, m + 1 + (p + 1) ≤ vs.length ∧ kk < m + 1 + (p + 1) ∧ u = .int .i64 kk ∧ v = .int .i64 (p + 1 : Nat) ∧ Hid ((dd (vs.take (m + 1 + (p + 1)))).length = kk ∧ RowAt wq b 22 1 vs.length cap ((mid vs (m + 1 + (p + 1))).flatMap encV) ∧ Frame [b] w wq)) (fun _ v _ => vs.length - (m + 1) - (intOf v).toNat)
          case atStart =>
            refine ⟨0, m + 1, by omega, by omega, by first | rfl | go_num, by first | rfl | go_num, ?_⟩
            have e2 : dd (vs.take (m + 1 + 1)) = vs.take (m + 1) := by
              have := HN.out
              rw [if_pos HD.out.symm, hR.out.2] at this
              exact this
            refine ⟨by rw [Nat.zero_add, e2]; simp; omega, ?_, (hR.out.1.trans1 F6.out).mono (by simp)⟩
            have e3 : mid vs (m + 1 + (0 + 1)) = vs := by
              rw [Nat.zero_add, ← mid_skip (e2.trans hR.out.2.symm)]
              exact mid_start hR.out.2 hm
            rw [e3]
            exact HX.out.frame (hR.out.1.trans1 F6.out) (by simp)
          case round =>
            obtain ⟨p, kk, hp, hkk, rfl, rfl, hQ⟩ := hrel
            rename World => wq
            by_cases hlt2 : m + 1 + (p + 1) < vs.length
            · have hlt3 : p + 1 < vs.length - (m + 1) := by omega
              have g2 : vs[m + 1 + p]? = some vs[m + 1 + p] := by simp
              have g3 : vs[m + 1 + (p + 1)]? = some vs[m + 1 + (p + 1)] := by simp [hlt2]
              have hmy2 : vs[m + 1 + p] ∈ vs := List.getElem_mem _
              have hmx2 : vs[m + 1 + (p + 1)] ∈ vs := List.getElem_mem _
              have hn2 := dd_next g2 g3
              generalize vs[m + 1 + p] = y2 at *
              generalize vs[m + 1 + (p + 1)] = x2 at *
              have q2 := hQ.out.2.1.atV ((mid_at vs (i := m + 1 + (p + 1)) (j := m + 1 + p) (by have := hQ.out.1; omega)).trans g2)
              have q3 := hQ.out.2.1.atV ((mid_at vs (i := m + 1 + (p + 1)) (j := m + 1 + (p + 1)) (by have := hQ.out.1; omega)).trans g3)
              have Q3 := Lib.hid q3
              have q2 := framed_cell q2
              have q3 := framed_cell q3
              have HN2 := Lib.hid hn2
              have G2 := Lib.hid g2
              have G3 := Lib.hid g3
              have E2 := Lib.hid (fun w' (f : Frame [] wq w') => HEQ.out x2 y2 w' hmx2 hmy2 (hQ.out.2.2.trans1 (f.mono (by simp))))
              clear hn2 g2 g3 hmx2 hmy2
              have e2 : IntKind.i64.wrap (((p + 1 : Nat) : Int) - 1) = (p : Int) := by rw [show (((p + 1 : Nat) : Int) - 1) = (p : Int) from by omega]; exact IntWalk.i64_in _ (by omega)
              by_cases hd2 : x2.l = y2.l
              · rw [decide_eq_true hd2] at E2
                have HD2 := Lib.hid hd2
                clear hd2
                go_wp2_with fail
                refine wp_region_framed (by kernel_rfl) (by kernel_rfl) ?_
                repeat (go_big_quiet_step (exact framed_of (E2.out _ (FramedBy.h _))))
                refine wpQuiet_nil ?_
                intro w7 hw
                have f7 := framed_out hw
                clear hw
                go_wp2_with fail
                go_roundw
                case rel =>
                  have e9 : dd (vs.take (m + 1 + (p + 1) + 1)) = dd (vs.take (m + 1 + (p + 1))) := by
                    have := HN2.out
                    rw [if_pos HD2.out.symm] at this
                    exact this
                  exact ⟨p + 1, kk, by omega, by omega, by first | rfl | go_num, by first | rfl | go_num, by
                    show (dd (vs.take (m + 1 + (p + 1) + 1))).length = kk
                    rw [e9]; exact hQ.out.1, by
                    show RowAt _ _ _ _ _ _ ((mid vs (m + 1 + (p + 1) + 1)).flatMap encV)
                    rw [← mid_skip e9]
                    exact hQ.out.2.1.frame f7 (by simp), hQ.out.2.2.trans1 (f7.mono (by simp))⟩
                case measure => first | (simp [intOf]; done) | (simp [intOf]; omega)
              · rw [decide_eq_false hd2] at E2
                have HD2 := Lib.hid hd2
                clear hd2
                go_wp2_with fail
                refine wp_region_framed (by kernel_rfl) (by kernel_rfl) ?_
                repeat (go_big_quiet_step (exact framed_of (E2.out _ (FramedBy.h _))))
                refine wpQuiet_nil ?_
                intro w7 hw
                have f7 := framed_out hw
                clear hw
                have F7 := Lib.hid f7
                have q4 := f7.cell Q3.out (by simp)
                have R7 := Lib.hid (hQ.out.2.1.frame f7 (by simp))
                have hkl : kk < vs.length := by omega
                obtain ⟨z, hz⟩ : ∃ z, (mid vs (m + 1 + (p + 1)))[kk]? = some z := by
                  have := mid_len vs (i := m + 1 + (p + 1)) (by omega)
                  exact ⟨_, List.getElem?_eq_getElem (by omega)⟩
                have ck := R7.out.atV hz
                have fk := R7.out.frozen kk
                clear f7 hz q2 q3
                go_wp2_with fail
                go_roundw
                case rel =>
                  have e9 : dd (vs.take (m + 1 + (p + 1) + 1)) = dd (vs.take (m + 1 + (p + 1))) ++ [x2] := by
                    have := HN2.out
                    rw [if_neg (fun h => HD2.out h.symm)] at this
                    exact this
                  exact ⟨p + 1, kk + 1, by omega, by omega, by first | rfl | go_num, by first | rfl | go_num, by
                    show (dd (vs.take (m + 1 + (p + 1) + 1))).length = kk + 1
                    rw [e9, List.length_append, hQ.out.1]; rfl, by
                    show RowAt _ _ _ _ _ _ ((mid vs (m + 1 + (p + 1) + 1)).flatMap encV)
                    have := R7.out.setV kk x2
                    rw [← hQ.out.1, mid_keep G3.out e9, hQ.out.1] at this
                    exact this, (hQ.out.2.2.trans1 (F7.out.mono (by simp))).trans1 (Frame.setCell _ _ _ (by simp))⟩
                case measure => first | (simp [intOf]; done) | (simp [intOf]; omega)
            · have hend : m + 1 + (p + 1) = vs.length := by omega
              have hQ' := hQ.out
              rw [hend] at hQ'
              rw [HAT.out] at hQ'
              have HL := Lib.hid hQ'.1
              have HROW := Lib.hid hQ'.2.1
              have HF := Lib.hid hQ'.2.2
              clear hQ'
              have hml := mid_len vs (Nat.le_refl vs.length)
              have hcl : ∀ ty, (Builtin.clear_ #[26] ty #[.slice (some ⟨b, kk, none⟩) (vs.length - kk) (cap - kk)]).run Try.prog wq = .ok (.tuple #[]) (wq.setCells b kk (List.replicate (vs.length - kk) (.slice none 0 0))) :=
                fun ty => Lib.run_clear_slice wq _ _ ty (.slice none 0 0) Try.underlying26 Try.zeroValue22 rfl rfl b kk _ _ (by omega) (fun j hj => by
                  have hj2 : kk + j < (mid vs vs.length).length := by omega
                  rw [HROW.out.atV (List.getElem?_eq_getElem hj2)]; rfl) (fun j hj => HROW.out.frozen (kk + j))
              have hkn : kk ≤ vs.length := by omega
              go_wp2_with fail
              go_ret
              refine ⟨by rw [HL.out]; rfl, ?_, Frame.setCells _ _ HF.out⟩
              refine RowAt.behind _ _ (by rw [HL.out]; exact Nat.le_refl _) ?_
              have := HROW.out.cut (m := ds.length) (by rw [HL.out]; exact hkn)
              have e5 : ((mid vs vs.length).flatMap encV).take ds.length = ds.flatMap encV := by
                rw [encV_map, encV_map, ← List.map_take]
                unfold mid
                rw [HAT.out, List.take_left]
              rw [e5] at this
              exact this
        · rw [decide_eq_false hd] at E
          have HD := Lib.hid hd
          clear hd
          go_wp2_with fail
          refine wp_region_framed (by kernel_rfl) (by kernel_rfl) ?_
          repeat (go_big_quiet_step (exact framed_of (E.out _ (FramedBy.h _))))
          refine wpQuiet_nil ?_
          intro w6 hw
          have f6 := framed_out hw
          clear hw
          go_wp2_with fail
          go_roundw
          case rel => exact ⟨m + 1, by omega, by first | rfl | go_num, hR.out.1.trans1 f6, by
            rw [HN.out, if_neg (fun h => HD.out h.symm), hR.out.2, ← take_one' G1.out]⟩
          case measure => first | (simp [intOf]; done) | (simp [intOf]; omega)
      · have hend : vs.length = m + 1 := by omega
        have hds : ds = vs := by
          have h := hR.out.2
          rw [← hend, List.take_length] at h
          exact HDS.out.symm.trans h
        have hlen : ds.length = vs.length := by rw [hds]
        have HH := Lib.hid hds
        clear hds HDS HAT HDL
        go_wp2_with fail
        go_ret
        exact ⟨by rw [hlen]; rfl, by rw [hlen, HH.out]; exact HX.out.frame hR.out.1 (by simp), hR.out.1.mono (by simp)⟩
end Go.Proofs.Ytojfemaamhampaa
