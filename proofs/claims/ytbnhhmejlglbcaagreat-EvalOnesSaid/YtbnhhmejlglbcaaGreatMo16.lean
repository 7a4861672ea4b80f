/- circ: Tokens, walked. -/
import Derived.Test.YtbnhhmejlglbcaaGreatMo15
namespace Go.Proofs.YtbnhhmejlglbcaaGreat
open Go.RowKit
set_option linter.unusedSimpArgs false
set_option linter.unusedVariables false

/-- The tokens among some gates. -/
def tk (l : List Gt) (js : List Nat) : List Int := (js.filter fun j => decide ((l[j]?).map Gt.k = some 3)).map fun j => ((l[j]?).map Gt.a).getD 0
theorem take_one {α : Type} {js : List α} {i : Nat} {j : α} (hj : js[i]? = some j) : js.take (i + 1) = js.take i ++ [j] := by
  rw [List.take_add_one, hj]; rfl
theorem tk_yes {l : List Gt} {js : List Nat} {i j : Nat} {g : Gt} (hj : js[i]? = some j) (hg : l[j]? = some g) (h : g.k = 3) : tk l (js.take (i + 1)) = tk l (js.take i) ++ [g.a] := by
  simp [tk, take_one hj, List.filter_append, hg, h]
theorem tk_no {l : List Gt} {js : List Nat} {i j : Nat} {g : Gt} (hj : js[i]? = some j) (hg : l[j]? = some g) (h : g.k ≠ 3) : tk l (js.take (i + 1)) = tk l (js.take i) := by
  simp [tk, take_one hj, List.filter_append, hg, h]
theorem tk_len (l : List Gt) (js : List Nat) : (tk l js).length ≤ js.length := by
  unfold tk; rw [List.length_map]; exact List.length_filter_le _ _
theorem reach_lt {l : List Gt} {root j : Nat} (h : j ∈ reach l root) : j ≤ root := by
  unfold reach at h
  have := (List.mem_filter.mp h).1
  simp at this; omega
theorem reach_len (l : List Gt) (root : Nat) : (reach l root).length ≤ root + 1 := by
  unfold reach
  exact Nat.le_trans (List.length_filter_le _ _) (by simp)

set_option maxHeartbeats 4000000 in
set_option maxRecDepth 100000 in
theorem tokens_any (pb : Nat) (F : List Nat) (l : List Gt) (left : Int) (root : Nat) (w : World) (h : St w pb F l left) (hI : Inv l) (hr : root < l.length) (hlen : l.length ≤ 1000000) :
    Calls Tryz.prog 33 #[.pointer (some ⟨pb, 0, none⟩), .int .i64 root] w fun e w' => ∃ v G, e = .returned v ∧ Sl w' 3 1 encI v ((tk l (reach l root)).mergeSort fun x y => decide (x ≤ y)) G ∧ Frame [] w w' := by
  have hre := reach_any pb F l left root w h hI hr hlen
  have hRl := reach_len l root
  have hRm : ∀ j ∈ reach l root, j < l.length := fun j hj => by have := reach_lt hj; omega
  generalize reach l root = R at *
  have RE := Lib.hid hre
  have RM := Lib.hid hRm
  have H := Lib.hid h
  clear hre hRm h hI
  go_enter Tryz.func33, Tryz.ntmps33
  go_wp2_with fail
  refine RE.out.mono ?_
  rintro e w1 ⟨v, G0, rfl, s1, f1, hG0⟩
  obtain ⟨va, vcap, hv⟩ := s1.form
  subst hv
  rw [List.length_map] at s1 ⊢
  have S1 := Lib.hid s1
  have F1 := Lib.hid f1
  clear s1 f1 hG0 RE
  go_wp2_with fail
  go_loopw [4, 6, 11] (fun v k i wr => ∃ t : Nat, t ≤ R.length ∧ i = .int .i64 t ∧ Hid (Frame [] w1 wr ∧ ∃ G, Sl wr 3 1 encI v (tk l (R.take t)) G ∧ ∀ x ∈ G, w1.heap.size ≤ x)) (fun _ _ i _ => (R.length - intOf i).toNat)
  case atStart => exact ⟨0, Nat.zero_le _, rfl, Lib.hid ⟨Frame.refl _ _, [], by simpa [tk] using Sl.nil _ _ _ _, by simp⟩⟩
  case round =>
    obtain ⟨t, ht, rfl, hR⟩ := hrel
    by_cases hlt : t < R.length
    · have hj : R[t]? = some (R[t]) := by simp [hlt]
      have hjm := RM.out R[t] (List.getElem_mem hlt)
      generalize R[t] = j at hj hjm
      have hg : l[j]? = some (l[j]'hjm) := by simp
      generalize l[j]'hjm = g at hg
      obtain ⟨fr, G, sl, hG⟩ := hR.out
      obtain ⟨b9, cap9, hq, -, -, hc⟩ := (S1.out.frame0 fr).cell encI_len (k := t) (x := (j : Int)) (by simp [hj])
      simp only [Value.slice.injEq, List.length_map] at hq
      obtain ⟨rfl, -, rfl⟩ := hq
      have r0 := hc 0 _ rfl
      simp only [Nat.mul_one, Nat.add_zero] at r0
      obtain ⟨lb, lcap, mb, kb, -, h1, h2, -⟩ := H.out.frame0 (F1.out.trans1 fr)
      obtain ⟨g0, g1, g2⟩ := gates_at hg
      have c0 := h1.at 0 rfl
      have d0 := h2.cell g0
      have d1 := h2.cell g1
      obtain ⟨vA, vc, hv⟩ := sl.form
      subst hv
      have hol := tk_len l (R.take t)
      rw [List.length_take] at hol
      generalize hoe : (tk l (R.take t)).length = ol at *
      have HOL := Lib.hid hoe
      have HJ := Lib.hid (And.intro hj hg)
      have SL := Lib.hid (And.intro sl (And.intro fr hG))
      clear hj hg hc fr sl hG h1 h2 g0 g1 g2 hoe
      obtain ⟨gk, ga, gb⟩ := g
      simp only at d0 d1
      by_cases k3 : gk = 3
      · subst k3
        go_wp2_with (at_builtin; refine wpList_append_sl _ rfl (.tmp 24) (.tmp 33) 50 rfl 3 1 8 _ encI Tryz.underlying50 infoInt rfl (by omega) (.slice vA ol vc) (tk l (R.take t)) G rfl (SL.out.1.frame0 (by (repeat first | assumption | exact Frame.refl _ _ | refine Frame.trans1 ?_ (Frame.alloc _ _ _) | refine Frame.trans1 ?_ (Frame.drew _ _) | refine Frame.trans1 ?_ (Frame.drewN _ _ _)))) _ 1 1 [ga] _ rfl (Blk.new _ _ _) rfl rfl encI_len encI_one (by omega) (by have := HOL.out; omega) (by omega) ?_; intro b' cap' w4 sl4 f4 hb4; have f4w : Frame G wr w4 := (show Frame G wr _ from by (repeat first | assumption | exact Frame.refl _ _ | refine Frame.trans1 ?_ (Frame.alloc _ _ _) | refine Frame.trans1 ?_ (Frame.drew _ _) | refine Frame.trans1 ?_ (Frame.drewN _ _ _))).trans1 f4; have R4 := Lib.hid (And.intro sl4 (And.intro f4w hb4)); clear sl4 f4w f4 hb4)
        go_roundw
        case rel =>
          refine ⟨t + 1, by omega, rfl, Lib.hid ⟨SL.out.2.1.trans R4.out.2.1 (fun x hx => .inr (SL.out.2.2 x hx)), [b'], by rw [tk_yes HJ.out.1 HJ.out.2 rfl]; exact R4.out.1, ?_⟩⟩
          intro x hx
          simp at hx
          subst hx
          rcases R4.out.2.2 with hb | hb
          · exact SL.out.2.2 _ hb
          · rw [hb]
            exact Nat.le_trans SL.out.2.1.size (by rw [show ∀ (a : World) o, (a.alloc o).heap.size = a.heap.size + 1 from fun _ _ => Array.size_push ..]; omega)
        case measure => first | (simp [intOf]; done) | (simp [intOf]; omega)
      · have q3 : (gk == 3) = false := by simp [k3]
        have KK := Lib.hid k3
        clear k3
        go_wp2_with fail
        go_roundw
        case rel =>
          refine ⟨t + 1, by omega, rfl, Lib.hid ⟨SL.out.2.1, G, by rw [tk_no HJ.out.1 HJ.out.2 KK.out]; exact SL.out.1, SL.out.2.2⟩⟩
        case measure => first | (simp [intOf]; done) | (simp [intOf]; omega)
    · obtain rfl : t = R.length := by omega
      obtain ⟨fr, G, sl, hG⟩ := hR.out
      rw [List.take_length] at sl
      have hol := tk_len l R
      have hso := sort_sl _ _ G _ sl (by omega)
      have SO := Lib.hid hso
      have HF := Lib.hid (And.intro (F1.out.trans1 fr) (And.intro F1.out.size hG))
      clear hso sl fr hG hR
      go_wp2_with fail
      refine SO.out.mono ?_
      rintro e w5 ⟨rfl, s5, f5⟩
      have S5 := Lib.hid (And.intro s5 f5)
      clear s5 f5
      go_wp2_with fail
      go_ret
      exact ⟨_, G, rfl, S5.out.1, HF.out.1.trans S5.out.2 (fun x hx => .inr (Nat.le_trans HF.out.2.1 (HF.out.2.2 x hx)))⟩
end Go.Proofs.YtbnhhmejlglbcaaGreat

