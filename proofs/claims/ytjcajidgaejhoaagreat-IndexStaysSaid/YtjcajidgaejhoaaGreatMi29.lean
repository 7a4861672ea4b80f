/- The reference's Add. -/
import Derived.Test.YtjcajidgaejhoaaGreatMi27
namespace Go.Proofs.YtjcajidgaejhoaaGreat
open Go.RowKit
set_option linter.unusedSimpArgs false
set_option linter.unusedVariables false
section
variable {w w' : World} {rb : Nat} {D S : List Nat} {zs : List Zn} {ns : List Nv} {es : List Ed} {next : Int}
/-- A new row of edges put in the place of the old one, and a new number. -/
theorem RGz.setEdges {w1 w2 : World} (h : RGz w rb D zs es next) (f : Frame [] w w1) {es' : List Ed} {a' : Option Addr} {n' c' : Nat} {G : List Nat} (hs : Sl w1 44 4 Ed.cs (.slice a' n' c') es' G) (hn : es'.length = n') (hG : ∀ x ∈ G, w.heap.size ≤ x) (hrb : rb < w.heap.size) {next' : Int} (fs : Frame [rb] w1 w2)
    (hblk : ∀ u v, Blk w1 rb 101 #[u, v, .int .i64 next] → Blk w2 rb 101 #[u, .slice a' n' c', .int .i64 next']) :
    RGEnd w rb D (zs.map Zn.v) es' next' w2 := by
  subst hn
  obtain ⟨h1, h2, h3, an, nc, ae, ec, h4, h5, h6, h7⟩ := h
  refine ⟨D ++ (List.range w1.heap.size).filter (fun x => decide (w.heap.size ≤ x)), ⟨zs, ⟨?_, ?_, ?_, an, nc, a', c', hblk _ _ (h4.frame f (by simp)), ?_, ?_, h7⟩, rfl⟩, (f.mono (by simp)).trans1 fs, ?_⟩
  · simp only [List.mem_append, List.mem_filter, List.mem_range, decide_eq_true_eq, not_or]
    exact ⟨h1, fun hm => by omega⟩
  · intro x hx
    simp only [List.mem_append, List.mem_filter, List.mem_range, decide_eq_true_eq] at hx
    have hz := fs.size
    rcases hx with hx | hx
    · have := h2 x hx; have := f.size; omega
    · omega
  · intro z hz'
    refine Zn.ok_mono (Zn.ok_frame (Zn.ok_frame (h3 z hz') f (by simp)) fs (fun b hb hm => ?_)) (fun b hb => by simp; exact .inl hb)
    simp at hm; subst hm; exact h1 hb
  · refine ((h5.frame0 f).frame fs (fun b hb hm => ?_)).mono (fun b hb => by simp; exact .inl hb)
    simp at hm; subst hm; exact h1 hb
  · refine (hs.rf ed_len (U := (· ∈ G)) (fun x hx => hx)).frame fs (fun b hb hm => ?_) |>.mono (fun b hb => ?_)
    · simp at hm; subst hm; have := hG _ hb; omega
    · simp only [List.mem_append, List.mem_filter, List.mem_range, decide_eq_true_eq]
      exact .inr ⟨hs.lt b hb, hG b hb⟩
  · intro x hx
    simp only [List.mem_append, List.mem_filter, List.mem_range, decide_eq_true_eq] at hx
    rcases hx with hx | hx
    · exact .inl hx
    · exact .inr hx.2
end

set_option maxHeartbeats 8000000 in
set_option maxRecDepth 100000 in
theorem rg_add {w : World} {rb : Nat} {D : List Nat} {ns : List Nv} {es : List Ed} {given : Int} (h : RGv w rb D ns es (given + 1)) (hlen : ns.length ≤ 1000000) (hel : es.length ≤ 1000000) (hg0 : 0 ≤ given) (hg1 : given ≤ 1099511627776) (x : Int) (s : ByteArray) (y : Int) (hsz : s.size ≤ 9223372036854775807) :
    Calls Tryz.prog 58 #[.pointer (some ⟨rb, 0, none⟩), .int .i64 x, .string s, .int .i64 y] w fun e w' => e = .returned (.tuple #[.int .i64 (vAdd ns es given x s y).1.1, .int .i64 (vAdd ns es given x s y).1.2]) ∧ RGEnd w rb D ns (vAdd ns es given x s y).2.1 ((vAdd ns es given x s y).2.2 + 1) w' := by
  have H0 := Lib.hid h
  obtain ⟨zs, hz, hns⟩ := h
  have hl : zs.length = ns.length := by rw [← hns, List.length_map]
  obtain ⟨m1, m2, m3, an, nc, ae, ec, hb, m5, m6, -⟩ := id hz
  rw [hl] at hb
  have hrn : RN (· ∈ D) w an ns := by rw [← hns]; exact rn_of_zn m5 m3
  have c0 := hb.at 0 rfl
  have c1 := hb.at 1 rfl
  have c2 := hb.at 2 rfl
  have HPL := Lib.hid (fun t w' (f : Frame [] w w') => place_any (· ∈ D) an ae nc es.length ec ns (given + 1) t w' (hrn.frame0 f) (by omega))
  have HB := Lib.hid hb
  have HZ := Lib.hid hz
  have HNS := Lib.hid hns
  have HE := Lib.hid m6
  clear hb hrn hz hns hl m1 m2 m3 m5 m6
  cases hn : namedB s with
  | false =>
    have e : vAdd ns es given x s y = ((0, 2), es, given) := by unfold vAdd; rw [if_pos hn]
    rw [e]
    clear e
    have HN := Lib.hid (fun w => rname_of hn w hsz)
    clear hn
    go_enter Tryz.func58, Tryz.ntmps58
    go_wp2_with fail
    refine (HN.out _).mono ?_
    rintro e w' ⟨rfl, rfl⟩
    go_wp2_with fail
    go_ret2
    exact ⟨rfl, RGEnd.quiet H0.out (by (repeat first | assumption | exact Frame.refl _ _ | refine Frame.trans1 ?_ (Frame.alloc _ _ _) | refine Frame.trans1 ?_ (Frame.drew _ _) | refine Frame.trans1 ?_ (Frame.drewN _ _ _)))⟩
  | true =>
    have HN := Lib.hid (fun w => rname_of hn w hsz)
    by_cases hx : x ∈ ns.map (·.1)
    case neg =>
      have e : vAdd ns es given x s y = ((0, 7), es, given) := by unfold vAdd; rw [if_neg (by simp [hn]), if_pos (.inl hx)]
      rw [e]
      clear e
      have hp : placeV ns x < 0 := by rcases Int.lt_or_le (placeV ns x) 0 with h | h; exact h; exact absurd (placeV_mem.1 h) hx
      have hd : decide (placeV ns x < 0) = true := by simpa using hp
      clear hn hx
      go_enter Tryz.func58, Tryz.ntmps58
      go_wp2_with fail
      refine (HN.out _).mono ?_
      rintro e w ⟨rfl, rfl⟩
      go_wp2_with fail
      refine (HPL.out _ _ (by (repeat first | assumption | exact Frame.refl _ _ | refine Frame.trans1 ?_ (Frame.alloc _ _ _) | refine Frame.trans1 ?_ (Frame.drew _ _) | refine Frame.trans1 ?_ (Frame.drewN _ _ _)))).mono ?_
      rintro e w3 ⟨rfl, f3⟩
      have F3 := Lib.hid f3
      clear f3
      go_wp2_with fail
      go_ret2
      exact ⟨rfl, RGEnd.quiet H0.out F3.out⟩
    have hpx : ¬ placeV ns x < 0 := by have := placeV_mem.2 hx; omega
    have hdx : decide (placeV ns x < 0) = false := by simpa using hpx
    by_cases hy : y ∈ ns.map (·.1)
    case neg =>
      have e : vAdd ns es given x s y = ((0, 7), es, given) := by unfold vAdd; rw [if_neg (by simp [hn]), if_pos (.inr hy)]
      rw [e]
      clear e
      have hp : placeV ns y < 0 := by rcases Int.lt_or_le (placeV ns y) 0 with h | h; exact h; exact absurd (placeV_mem.1 h) hy
      have hd : decide (placeV ns y < 0) = true := by simpa using hp
      clear hn hx hy
      go_enter Tryz.func58, Tryz.ntmps58
      go_wp2_with fail
      refine (HN.out _).mono ?_
      rintro e w ⟨rfl, rfl⟩
      go_wp2_with fail
      refine (HPL.out _ _ (by (repeat first | assumption | exact Frame.refl _ _ | refine Frame.trans1 ?_ (Frame.alloc _ _ _) | refine Frame.trans1 ?_ (Frame.drew _ _) | refine Frame.trans1 ?_ (Frame.drewN _ _ _)))).mono ?_
      rintro e w3 ⟨rfl, f3⟩
      have hb3 := HB.out.frame f3 (by simp)
      have d0 := hb3.at 0 rfl
      have d1 := hb3.at 1 rfl
      have d2 := hb3.at 2 rfl
      have F3 := Lib.hid f3
      clear f3 hb3
      go_wp2_with fail
      refine (HPL.out _ _ F3.out).mono ?_
      rintro e w4 ⟨rfl, f4⟩
      have F4 := Lib.hid (F3.out.trans1 f4)
      clear f4
      go_wp2_with fail
      go_ret2
      exact ⟨rfl, RGEnd.quiet H0.out F4.out⟩
    have hpy : ¬ placeV ns y < 0 := by have := placeV_mem.2 hy; omega
    have hdy : decide (placeV ns y < 0) = false := by simpa using hpy
    by_cases hfull : 60 ≤ es.length ∨ 1099511627776 ≤ given
    case pos =>
      have e : vAdd ns es given x s y = ((0, 5), es, given) := by unfold vAdd; rw [if_neg (by simp [hn]), if_neg (by simp only [not_or, Classical.not_not]; exact ⟨hx, hy⟩), if_pos hfull]
      rw [e]
      clear e hn hx hy
      have hfull' : 60 ≤ es.length ∨ (es.length < 60 ∧ 1099511627776 ≤ given) := by omega
      clear hfull
      rcases hfull' with hf | ⟨hf, hf2⟩
      · have hd : decide ((60 : Int) ≤ es.length) = true := by simp; omega
        go_enter Tryz.func58, Tryz.ntmps58
        go_wp2_with fail
        refine (HN.out _).mono ?_
        rintro e w ⟨rfl, rfl⟩
        go_wp2_with fail
        refine (HPL.out _ _ (by (repeat first | assumption | exact Frame.refl _ _ | refine Frame.trans1 ?_ (Frame.alloc _ _ _) | refine Frame.trans1 ?_ (Frame.drew _ _) | refine Frame.trans1 ?_ (Frame.drewN _ _ _)))).mono ?_
        rintro e w3 ⟨rfl, f3⟩
        have hb3 := HB.out.frame f3 (by simp)
        have d0 := hb3.at 0 rfl
        have d1 := hb3.at 1 rfl
        have d2 := hb3.at 2 rfl
        have F3 := Lib.hid f3
        clear f3 hb3
        go_wp2_with fail
        refine (HPL.out _ _ F3.out).mono ?_
        rintro e w4 ⟨rfl, f4⟩
        have d1 := (HB.out.frame (F3.out.trans1 f4) (by simp)).at 1 rfl
        have F4 := Lib.hid (F3.out.trans1 f4)
        clear f4
        go_wp2_with fail
        go_ret2
        exact ⟨rfl, RGEnd.quiet H0.out F4.out⟩
      · have hd : decide ((60 : Int) ≤ es.length) = false := by simp; omega
        have hd2 : decide (1099511627776 < given + 1) = true := by simp; omega
        go_enter Tryz.func58, Tryz.ntmps58
        go_wp2_with fail
        refine (HN.out _).mono ?_
        rintro e w ⟨rfl, rfl⟩
        go_wp2_with fail
        refine (HPL.out _ _ (by (repeat first | assumption | exact Frame.refl _ _ | refine Frame.trans1 ?_ (Frame.alloc _ _ _) | refine Frame.trans1 ?_ (Frame.drew _ _) | refine Frame.trans1 ?_ (Frame.drewN _ _ _)))).mono ?_
        rintro e w3 ⟨rfl, f3⟩
        have hb3 := HB.out.frame f3 (by simp)
        have d0 := hb3.at 0 rfl
        have d1 := hb3.at 1 rfl
        have d2 := hb3.at 2 rfl
        have F3 := Lib.hid f3
        clear f3 hb3
        go_wp2_with fail
        refine (HPL.out _ _ F3.out).mono ?_
        rintro e w4 ⟨rfl, f4⟩
        have d1 := (HB.out.frame (F3.out.trans1 f4) (by simp)).at 1 rfl
        have d2 := (HB.out.frame (F3.out.trans1 f4) (by simp)).at 2 rfl
        have F4 := Lib.hid (F3.out.trans1 f4)
        clear f4
        go_wp2_with fail
        go_ret2
        exact ⟨rfl, RGEnd.quiet H0.out F4.out⟩
    have e : vAdd ns es given x s y = ((given + 1, 0), es ++ [⟨given + 1, x, s, y⟩], given + 1) := by unfold vAdd; rw [if_neg (by simp [hn]), if_neg (by simp only [not_or, Classical.not_not]; exact ⟨hx, hy⟩), if_neg hfull]
    rw [e]
    clear e hn hx hy
    have hq1 : es.length < 60 := by omega
    have hq2 : given < 1099511627776 := by omega
    clear hfull
    have hd : decide ((60 : Int) ≤ es.length) = false := by simp; omega
    have hd2 : decide (1099511627776 < given + 1) = false := by simp; omega
    go_enter Tryz.func58, Tryz.ntmps58
    go_wp2_with fail
    refine (HN.out _).mono ?_
    rintro e w ⟨rfl, rfl⟩
    go_wp2_with fail
    refine (HPL.out _ _ (by (repeat first | assumption | exact Frame.refl _ _ | refine Frame.trans1 ?_ (Frame.alloc _ _ _) | refine Frame.trans1 ?_ (Frame.drew _ _) | refine Frame.trans1 ?_ (Frame.drewN _ _ _)))).mono ?_
    rintro e w3 ⟨rfl, f3⟩
    have hb3 := HB.out.frame f3 (by simp)
    have d0 := hb3.at 0 rfl
    have d1 := hb3.at 1 rfl
    have d2 := hb3.at 2 rfl
    have F3 := Lib.hid f3
    clear f3 hb3
    go_wp2_with fail
    refine (HPL.out _ _ F3.out).mono ?_
    rintro e w4 ⟨rfl, f4⟩
    have hb4 := HB.out.frame (F3.out.trans1 f4) (by simp)
    have HB4 := Lib.hid hb4
    have d1 := hb4.at 1 rfl
    have d2 := hb4.at 2 rfl
    have F4 := Lib.hid (F3.out.trans1 f4)
    have HRF := Lib.hid ((HE.out.frame0 F4.out).frame0 (Frame.alloc [] w4 (.cells #[] 44)))
    have d1a : (w4.alloc (.cells #[] 44)).cell? ⟨rb, 1, none⟩ = some (.slice ae es.length ec) := (hb4.alloc _).at 1 rfl
    clear f4 hb4 c0 c1 c2 d0
    go_wp2_with (first
      | (at_builtin; refine wpList_append_rf rfl (.tmp 51) (.tmp 56) 23 rfl 44 4 40 _ Ed.cs Tryz.underlying23 infoEdge rfl (by omega) _ [] 0 rfl [w4.heap.size] rfl (sl_empty _ _ _ _) (· ∈ D) _ _ _ es rfl HRF.out rfl ed_len ed_one es.length (by omega) (by omega) (by omega) ?_; intro a5 cap5 w5 G5 sl5 f5 hG5)
      | (at_builtin; refine wpList_append_rf rfl (.tmp 57) (.tmp 63) 23 rfl 44 4 40 _ Ed.cs Tryz.underlying23 infoEdge rfl (by omega) _ ([] ++ es) es.length rfl G5 rfl (sl5.frame0 (Frame.alloc _ _ _)) (fun y => y = w5.heap.size) _ 1 1 [⟨given + 1, x, s, y⟩] rfl (rf_one (Blk.new _ _ _) _ rfl) rfl ed_len ed_one (es.length + 1) rfl (by omega) (by omega) ?_; intro a6 cap6 w6 G6 sl6 f6 hG6; have hz4 := f5.size; have hb5 : ∀ x ∈ G5, w4.heap.size ≤ x := (fun x hx => by rcases hG5 x hx with h | h <;> simp at h <;> omega); have hb6 : ∀ x ∈ G6, w4.heap.size ≤ x := (fun x hx => by rcases hG6 x hx with h | h; exact hb5 x h; simp at h hz4; omega); have f46 : Frame [] w4 w6 := (((Frame.alloc [] w4 _).trans f5 (fun x hx => by simp at hx; subst hx; exact .inr (Nat.le_refl _))).trans1 (Frame.alloc [] w5 _)).trans f6 (fun x hx => .inr (hb5 x hx)); have F46 := Lib.hid f46; have B6 := Lib.hid hb6; have S6 := Lib.hid sl6; have hblk6 := HB4.out.frame f46 (by simp); have HB6 := Lib.hid hblk6; have k0 := hblk6.at 1 rfl; have k1 := hblk6.frozen 1; have k2 := hblk6.at 2 rfl; have k3 := hblk6.frozen 2; clear sl5 f5 hG5 sl6 f6 hG6 hz4 hb5 hb6 f46 hblk6))
    go_ret2
    refine ⟨rfl, ?_⟩
    have hw4 := F4.out.size
    rw [← HNS.out]
    exact RGz.setEdges HZ.out (F4.out.trans1 F46.out) (es' := es ++ [⟨given + 1, x, s, y⟩]) (by simpa using S6.out) (by simp) (fun x hx => by have := B6.out x hx; omega) HB.out.lt ((Frame.setCell _ ⟨rb, 1, none⟩ _ (by simp)).trans1 (Frame.setCell _ ⟨rb, 2, none⟩ _ (by simp))) (fun u v hb => by
      have := (hb.set 1 (.slice a6 (es.length + 1) cap6)).set 2 (.int .i64 (given + 1 + 1))
      simpa using this)
end Go.Proofs.YtjcajidgaejhoaaGreat

