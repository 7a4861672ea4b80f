/- The reference's DropNode. -/
import Derived.Test.YtolkmapdbilolaaMg23
namespace Go.Proofs.Ytolkmapdbilolaa
open Go.RowKit
set_option linter.unusedSimpArgs false
set_option linter.unusedVariables false

theorem RF.take {α : Type} {U : Nat → Prop} {w : World} {sz : Nat} {enc : α → List Value} {a : Option Addr} {xs : List α} (h : RF U w sz enc a xs) (k : Nat) : RF U w sz enc a (xs.take k) := fun j x hx => by
  rw [List.getElem?_take] at hx
  split at hx
  · exact h j x hx
  · cases hx
theorem RF.drop {α : Type} {U : Nat → Prop} {w : World} {sz : Nat} {enc : α → List Value} {b off : Nat} {xs : List α} (h : RF U w sz enc (some ⟨b, off, none⟩) xs) (k : Nat) : RF U w sz enc (some ⟨b, off + k * sz, none⟩) (xs.drop k) := fun j x hx => by
  rw [List.getElem?_drop] at hx
  obtain ⟨b', off', h1, h2, h3⟩ := h (k + j) x hx
  simp at h1
  obtain ⟨rfl, rfl⟩ := h1
  refine ⟨b, off + k * sz, rfl, h2, fun i u hu => ?_⟩
  have := h3 i u hu
  rw [Nat.add_mul] at this
  rw [show off + k * sz + j * sz + i = off + (k * sz + j * sz) + i by omega]
  exact this
theorem placeV_rank {ns : List Nv} (hu : Up (ns.map (·.1))) {t : Int} (h : t ∈ ns.map (·.1)) : placeV ns t = rank (ns.map (·.1)) t ∧ rank (ns.map (·.1)) t < ns.length := by
  obtain ⟨h1, h2⟩ := rank_lt hu h
  rw [List.length_map] at h1
  generalize rank (ns.map (·.1)) t = i at *
  rw [List.getElem?_map, List.getElem?_eq_getElem h1] at h2
  refine ⟨placeV_at (k := i) (n := ns[i]) (by simp) (by simpa using h2) (fun j m hj hm => ?_), h1⟩
  obtain ⟨hjl, rfl⟩ := List.getElem?_eq_some_iff.1 hm
  have := List.pairwise_iff_getElem.1 hu j i (by simpa using hjl) (by simpa using h1) hj
  simp at this h2
  omega

set_option maxHeartbeats 8000000 in
set_option maxRecDepth 100000 in
theorem rg_dropNode {w : World} {rb : Nat} {D : List Nat} {ns : List Nv} {es : List Ed} {next : Int} (h : RGv w rb D ns es next) (hu : Up (ns.map (·.1))) (hlen : ns.length ≤ 1000000) (hel : es.length ≤ 1000000) (t : Int) :
    Calls Try.prog 92 #[.pointer (some ⟨rb, 0, none⟩), .int .i64 t] w fun e w' => e = .returned (.int .i64 (vDropNode ns es t).1) ∧ RGEnd w rb D (vDropNode ns es t).2 es next w' := by
  have H0 := Lib.hid h
  obtain ⟨zs, hz, hns⟩ := id h
  have hl : zs.length = ns.length := by rw [← hns, List.length_map]
  obtain ⟨m1, m2, m3, an, nc, ae, ec, hb, m5, hrf, hcp1, hcp2⟩ := id hz
  rw [hl] at hb hcp1
  have hrn : RN (· ∈ D) w an ns := by rw [← hns]; exact rn_of_zn m5 m3
  have HZ := Lib.hid hz
  have HB := Lib.hid hb
  have HM := Lib.hid (And.intro m3 (And.intro m5 (And.intro hl hns)))
  have HE := Lib.hid hrf
  have HPL := Lib.hid (fun w' (f : Frame [] w w') => place_any (· ∈ D) an ae nc es.length ec ns next t w' (hrn.frame0 f) hlen)
  have c0 := hb.at 0 rfl
  have c1 := hb.at 1 rfl
  have c2 := hb.at 2 rfl
  clear hb hrn hz m1 m2 m3 m5 hrf hns hl
  by_cases ht : t ∈ ns.map (·.1)
  case neg =>
    have e : vDropNode ns es t = (7, ns) := by unfold vDropNode; rw [if_pos ht]
    rw [e]
    have hp : placeV ns t < 0 := by rcases Int.lt_or_le (placeV ns t) 0 with h | h; exact h; exact absurd (placeV_mem.1 h) ht
    have hd : decide (placeV ns t < 0) = true := by simpa using hp
    clear e ht hu
    go_enter Try.func92, Try.ntmps92
    go_wp2_with fail
    refine (HPL.out _ (by (repeat first | assumption | exact Frame.refl _ _ | refine Frame.trans1 ?_ (Frame.alloc _ _ _) | refine Frame.trans1 ?_ (Frame.drew _ _) | refine Frame.trans1 ?_ (Frame.drewN _ _ _)))).mono ?_
    rintro e w3 ⟨rfl, f3⟩
    have F3 := Lib.hid f3
    clear f3
    go_wp2_with fail
    go_ret
    exact ⟨rfl, RGEnd.quiet H0.out F3.out⟩
  obtain ⟨hpr, hrk⟩ := placeV_rank hu ht
  have HV : Hid (vDropNode ns es t = if es.any (meets t) = true then (8, ns) else (0, ns.eraseIdx (rank (ns.map (·.1)) t))) := by
    show _ = _
    unfold vDropNode
    rw [if_neg (by simpa using ht)]
  generalize vDropNode ns es t = q at *
  rw [hpr] at HPL
  generalize rank (ns.map (·.1)) t = r at *
  clear ht hu hpr
  go_enter Try.func92, Try.ntmps92
  go_wp2_with fail
  refine (HPL.out _ (by (repeat first | assumption | exact Frame.refl _ _ | refine Frame.trans1 ?_ (Frame.alloc _ _ _) | refine Frame.trans1 ?_ (Frame.drew _ _) | refine Frame.trans1 ?_ (Frame.drewN _ _ _)))).mono ?_
  rintro e w3 ⟨rfl, f3⟩
  have F3 := Lib.hid f3
  clear f3 c0 c1 c2
  go_wp2_with fail
  go_loopw [6] (fun i wr => ∃ k : Nat, k ≤ es.length ∧ i = .int .i64 k ∧ Hid (Frame [] w wr ∧ ∀ j e, j < k → es[j]? = some e → meets t e = false)) (fun i _ => es.length - (intOf i).toNat)
  case atStart => exact ⟨0, Nat.zero_le _, rfl, F3.out, fun j _ h => by omega⟩
  case round =>
    obtain ⟨k, hk, rfl, hR⟩ := hrel
    have hb9 := HB.out.frame hR.out.1 (by simp)
    have z1 := hb9.at 1 rfl
    by_cases hlt : k < es.length
    · have g1 : es[k]? = some es[k] := by simp [hlt]
      obtain ⟨b, off, rfl, -, q1⟩ := (HE.out.frame0 hR.out.1) k _ g1
      have d1 := q1 1 _ rfl
      have d3 := q1 3 _ rfl
      generalize es[k] = ed at *
      obtain ⟨tk, sr, lb, ds⟩ := ed
      simp only at d1 d3
      have G1 := Lib.hid g1
      clear g1 q1 hb9
      have yes : ∀ (he : meets t ⟨tk, sr, lb, ds⟩ = true), q = (8, ns) := fun he => by
        rw [HV.out, if_pos]
        rw [List.any_eq_true]
        exact ⟨_, List.mem_of_getElem? G1.out, he⟩
      have YES := Lib.hid yes
      clear yes
      by_cases h1 : sr = t
      · have hd : (sr == t) = true := by simp [h1]
        have HX := Lib.hid h1
        clear h1
        go_wp2_with fail
        go_ret
        rw [YES.out (by simp [meets, HX.out])]
        exact ⟨rfl, RGEnd.quiet H0.out (hR.out.1.trans1 (by (repeat first | assumption | exact Frame.refl _ _ | refine Frame.trans1 ?_ (Frame.alloc _ _ _) | refine Frame.trans1 ?_ (Frame.drew _ _) | refine Frame.trans1 ?_ (Frame.drewN _ _ _))))⟩
      have hd : (sr == t) = false := by simp [h1]
      by_cases h2 : ds = t
      · have hd2 : (ds == t) = true := by simp [h2]
        have HX := Lib.hid h2
        clear h2 h1
        go_wp2_with fail
        go_ret
        rw [YES.out (by simp [meets, HX.out])]
        exact ⟨rfl, RGEnd.quiet H0.out (hR.out.1.trans1 (by (repeat first | assumption | exact Frame.refl _ _ | refine Frame.trans1 ?_ (Frame.alloc _ _ _) | refine Frame.trans1 ?_ (Frame.drew _ _) | refine Frame.trans1 ?_ (Frame.drewN _ _ _))))⟩
      have hd2 : (ds == t) = false := by simp [h2]
      have HX := Lib.hid (And.intro h1 h2)
      clear h1 h2
      go_wp2_with fail
      go_roundw
      case rel => exact ⟨k + 1, by omega, by first | rfl | go_num, Lib.hid ⟨hR.out.1.trans1 (by (repeat first | assumption | exact Frame.refl _ _ | refine Frame.trans1 ?_ (Frame.alloc _ _ _) | refine Frame.trans1 ?_ (Frame.drew _ _) | refine Frame.trans1 ?_ (Frame.drewN _ _ _))), fun j f hj hf => by
        rcases Nat.lt_or_ge j k with h | h
        · exact hR.out.2 j f h hf
        · obtain rfl : j = k := by omega
          have := G1.out.symm.trans hf
          simp at this
          subst this
          simp [meets, HX.out.1, HX.out.2]⟩⟩
      case measure => first | (simp [intOf]; done) | (simp [intOf]; omega)
    · obtain rfl : k = es.length := by omega
      have hno : es.any (meets t) = false := by
        rw [List.any_eq_false]
        intro e he
        obtain ⟨j, hj, rfl⟩ := List.getElem_of_mem he
        have := hR.out.2 j es[j] hj (by simp)
        simp [this]
      have hq : q = (0, ns.eraseIdx r) := by rw [HV.out, hno]; rfl
      subst hq
      have hzl : zs.length = ns.length := HM.out.2.2.1
      have hone := HM.out.2.1.one
      rcases hone with h0 | ⟨b, off, rfl, hbD, -⟩
      · subst h0; simp at hzl; omega
      have z0 := hb9.at 0 rfl
      have HB9 := Lib.hid hb9
      have HRF := Lib.hid (HM.out.2.1.frame0 hR.out.1)
      have z0a : (wr.alloc (.cells #[] 86)).cell? ⟨rb, 0, none⟩ = some (.slice (some ⟨b, off, none⟩) ns.length nc) := (hb9.alloc _).at 0 rfl
      have hrn1 : r ≤ nc := by omega
      have hrn2 : r + 1 ≤ ns.length := by omega
      have hlr : (zs.take r).length = r := by simp; omega
      have HLR := Lib.hid hlr
      clear hb9 hno hlr
      have hld : (zs.drop (r + 1)).length = ns.length - (r + 1) := by simp; omega
      have HLD := Lib.hid hld
      clear hld
      by_cases hcap : r + 1 = nc
      · have hnil : zs.drop (r + 1) = [] := List.drop_of_length_le (by omega)
        have HNIL := Lib.hid hnil
        clear hnil
        subst hcap
        go_wp2_with (first
          | (at_builtin; refine wpList_append_rf rfl (.tmp 50) (.tmp 57) 52 rfl 86 3 56 _ Zn.enc Try.underlying52 infoNode rfl (by omega) _ [] 0 rfl [wr.heap.size] rfl (sl_empty _ _ _ _) (· ∈ D) _ r _ (zs.take r) rfl ((HRF.out.frame0 (Frame.alloc _ _ _)).take r) HLR.out zn_len zn_one r (by omega) (by omega) (by omega) ?_; intro a5 cap5 w5 G5 sl5 f5 hG5; have hz4 := f5.size; have hb5 : ∀ x ∈ G5, wr.heap.size ≤ x := (fun x hx => by rcases hG5 x hx with h | h <;> simp at h <;> omega); have f46 : Frame [] wr w5 := ((Frame.alloc [] wr _).trans f5 (fun x hx => by simp at hx; subst hx; exact .inr (Nat.le_refl _))); have F46 := Lib.hid f46; have S5 := Lib.hid (And.intro sl5 hb5); have z0 := (HB9.out.frame f46 (by simp)).at 0 rfl; clear sl5 f5 hG5 hz4 hb5 f46 z0a)
          | (at_builtin; refine wpList_append_rf rfl (.tmp 60) (.tmp 68) 52 rfl 86 3 56 _ Zn.enc Try.underlying52 infoNode rfl (by omega) _ ([] ++ zs.take r) r HLR.out G5 rfl S5.out.1 (· ∈ D) (some ⟨b, off, none⟩) 0 _ [] rfl (RF.nil _ _ _ _ _) rfl zn_len zn_one r rfl (by omega) (by omega) ?_; intro a6 cap6 w6 G6 sl6 f6 hG6; have hb6 : ∀ x ∈ G6, wr.heap.size ≤ x := (fun x hx => by have hz5 := F46.out.size; rcases hG6 x hx with h | h; exact S5.out.2 x h; omega); have f69 : Frame [] wr w6 := F46.out.trans f6 (fun x hx => .inr (S5.out.2 x hx)); have F69 := Lib.hid f69; have S6 := Lib.hid (And.intro sl6 hb6); have y0 := (HB9.out.frame f69 (by simp)).frozen 0; have y1 := (HB9.out.frame f69 (by simp)).at 0 rfl; clear sl6 f6 hG6 hb6 f69))
        go_ret
        refine ⟨rfl, ?_⟩
        have hzw := hR.out.1.size
        have hfin := RGz.setNodes HZ.out (hR.out.1.trans1 F69.out) (zs' := zs.eraseIdx r) (G := G6) (by rw [List.eraseIdx_eq_take_drop_succ, HNIL.out]; simpa using S6.out.1) (by rw [List.length_eraseIdx, if_pos (by omega)]; omega) (fun x hx => by have := S6.out.2 x hx; omega) (fun z hz => Zn.ok_mono (Zn.ok_frame (HM.out.1 z (List.mem_of_mem_eraseIdx hz)) (hR.out.1.trans1 F69.out) (fun b _ hm => by cases hm)) (fun b hb => .inl hb)) HB.out.lt
        rw [map_eraseIdx, HM.out.2.2.2] at hfin
        exact hfin
      · have hcap' : r + 1 < nc := by omega
        clear hcap
        go_wp2_with (first
          | (at_builtin; refine wpList_append_rf rfl (.tmp 50) (.tmp 57) 52 rfl 86 3 56 _ Zn.enc Try.underlying52 infoNode rfl (by omega) _ [] 0 rfl [wr.heap.size] rfl (sl_empty _ _ _ _) (· ∈ D) _ r _ (zs.take r) rfl ((HRF.out.frame0 (Frame.alloc _ _ _)).take r) HLR.out zn_len zn_one r (by omega) (by omega) (by omega) ?_; intro a5 cap5 w5 G5 sl5 f5 hG5; have hz4 := f5.size; have hb5 : ∀ x ∈ G5, wr.heap.size ≤ x := (fun x hx => by rcases hG5 x hx with h | h <;> simp at h <;> omega); have f46 : Frame [] wr w5 := ((Frame.alloc [] wr _).trans f5 (fun x hx => by simp at hx; subst hx; exact .inr (Nat.le_refl _))); have F46 := Lib.hid f46; have S5 := Lib.hid (And.intro sl5 hb5); have z0 := (HB9.out.frame f46 (by simp)).at 0 rfl; clear sl5 f5 hG5 hz4 hb5 f46 z0a)
          | (at_builtin; refine wpList_append_rf rfl (.tmp 60) (.tmp 68) 52 rfl 86 3 56 _ Zn.enc Try.underlying52 infoNode rfl (by omega) _ ([] ++ zs.take r) r HLR.out G5 rfl S5.out.1 (· ∈ D) (some ⟨b, off + (r + 1) * 3, none⟩) (ns.length - (r + 1)) _ (zs.drop (r + 1)) rfl (RF.drop ((HRF.out.frame0 F46.out)) (r + 1)) HLD.out zn_len zn_one (r + (ns.length - (r + 1))) rfl (by omega) (by omega) ?_; intro a6 cap6 w6 G6 sl6 f6 hG6; have hb6 : ∀ x ∈ G6, wr.heap.size ≤ x := (fun x hx => by have hz5 := F46.out.size; rcases hG6 x hx with h | h; exact S5.out.2 x h; omega); have f69 : Frame [] wr w6 := F46.out.trans f6 (fun x hx => .inr (S5.out.2 x hx)); have F69 := Lib.hid f69; have S6 := Lib.hid (And.intro sl6 hb6); have y0 := (HB9.out.frame f69 (by simp)).frozen 0; have y1 := (HB9.out.frame f69 (by simp)).at 0 rfl; clear sl6 f6 hG6 hb6 f69))
        go_ret
        refine ⟨rfl, ?_⟩
        have hzw := hR.out.1.size
        have hfin := RGz.setNodes HZ.out (hR.out.1.trans1 F69.out) (zs' := zs.eraseIdx r) (G := G6) (by rw [List.eraseIdx_eq_take_drop_succ]; simpa using S6.out.1) (by rw [List.length_eraseIdx, if_pos (by omega)]; omega) (fun x hx => by have := S6.out.2 x hx; omega) (fun z hz => Zn.ok_mono (Zn.ok_frame (HM.out.1 z (List.mem_of_mem_eraseIdx hz)) (hR.out.1.trans1 F69.out) (fun b _ hm => by cases hm)) (fun b hb => .inl hb)) HB.out.lt
        rw [map_eraseIdx, HM.out.2.2.2] at hfin
        exact hfin
end Go.Proofs.Ytolkmapdbilolaa

