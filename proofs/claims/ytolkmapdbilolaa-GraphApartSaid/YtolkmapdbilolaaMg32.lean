/- The reference's Label. -/
import Derived.Test.YtolkmapdbilolaaMg26
namespace Go.Proofs.Ytolkmapdbilolaa
open Go.RowKit
set_option linter.unusedSimpArgs false
set_option linter.unusedVariables false

/-- More blocks may be counted as the graph's. -/
theorem RGz.more {w : World} {rb : Nat} {D D' : List Nat} {zs : List Zn} {es : List Ed} {next : Int} (h : RGz w rb D zs es next) (hD : ∀ x ∈ D, x ∈ D') (hrb : rb ∉ D') (hlt : ∀ x ∈ D', x < w.heap.size) : RGz w rb D' zs es next := by
  obtain ⟨h1, h2, h3, an, nc, ae, ec, h4, h5, h6, h7⟩ := h
  exact ⟨hrb, hlt, fun z hz => Zn.ok_mono (h3 z hz) hD, an, nc, ae, ec, h4, h5.mono hD, h6.mono hD, h7⟩
/-- A node written anew behind what was made since. -/
theorem rg_change' {w w1 : World} {rb : Nat} {D : List Nat} {zs : List Zn} {es : List Ed} {next : Int} (h : RGz w rb D zs es next) (f : Frame [] w w1) (hlen : zs.length ≤ 1000000) (k : Nat) (hk : k < zs.length) (z : Zn) (hz : z.ok (fun b => b ∈ D ∨ (w.heap.size ≤ b ∧ b < w1.heap.size)) w1) :
    Calls Try.prog 135 #[.pointer (some ⟨rb, 0, none⟩), .int .i64 k, .agg #[.int .i64 z.nd.id, .slice z.nd.la z.nd.ln z.nd.lc, .slice z.nd.pa z.nd.pn z.nd.pc]] w1 fun e w' => e = .returned (.tuple #[]) ∧ RGEnd w rb D ((zs.set k z).map Zn.v) es next w' := by
  have hrb : rb < w.heap.size := by obtain ⟨-, -, -, an, nc, ae, ec, h4, -⟩ := h; exact h4.lt
  have hz1 := f.size
  have h1 : RGz w1 rb (D ++ (List.range w1.heap.size).filter (fun x => decide (w.heap.size ≤ x))) zs es next := by
    refine (h.frame f (by simp)).more (fun x hx => by simp [hx]) ?_ ?_
    · simp only [List.mem_append, List.mem_filter, List.mem_range, decide_eq_true_eq, not_or]
      exact ⟨h.1, fun hm => by omega⟩
    · intro x hx
      simp only [List.mem_append, List.mem_filter, List.mem_range, decide_eq_true_eq] at hx
      rcases hx with hx | hx
      · have := h.2.1 x hx; omega
      · exact hx.1
  refine (rg_change h1 hlen k hk z (Zn.ok_mono hz (fun b hb => ?_))).mono ?_
  · simp only [List.mem_append, List.mem_filter, List.mem_range, decide_eq_true_eq]
    rcases hb with h | h
    · exact .inl h
    · exact .inr ⟨h.2, h.1⟩
  · rintro e w' ⟨rfl, D', a, b, c⟩
    refine ⟨rfl, D', a, (f.mono (by simp)).trans1 b, fun x hx => ?_⟩
    rcases c x hx with h | h
    · simp only [List.mem_append, List.mem_filter, List.mem_range, decide_eq_true_eq] at h
      rcases h with h | h
      · exact .inl h
      · exact .inr h.2
    · right; omega

set_option maxHeartbeats 8000000 in
set_option maxRecDepth 100000 in
theorem rg_label {w : World} {rb : Nat} {D : List Nat} {ns : List Nv} {es : List Ed} {next : Int} (h : RGv w rb D ns es next) (hu : Up (ns.map (·.1))) (hlen : ns.length ≤ 1000000) (hok : ∀ n ∈ ns, UpS n.2.1 ∧ n.2.1.length ≤ 1000) (t : Int) (s : ByteArray) (hs : s.size ≤ 9223372036854775807) :
    Calls Try.prog 93 #[.pointer (some ⟨rb, 0, none⟩), .int .i64 t, .string s] w fun e w' => e = .returned (.int .i64 (vLabel ns t s).1) ∧ RGEnd w rb D (vLabel ns t s).2 es next w' := by
  have H0 := Lib.hid h
  obtain ⟨zs, hz, hns⟩ := id h
  have hl : zs.length = ns.length := by rw [← hns, List.length_map]
  obtain ⟨m1, m2, m3, an, nc, ae, ec, hb, m5, hrf, hcp1, hcp2⟩ := id hz
  rw [hl] at hb hcp1
  have hrn : RN (· ∈ D) w an ns := by rw [← hns]; exact rn_of_zn m5 m3
  have HZ := Lib.hid hz
  have HB := Lib.hid hb
  have HM := Lib.hid (And.intro m3 (And.intro m5 (And.intro hl hns)))
  have HPL := Lib.hid (fun w' (f : Frame [] w w') => place_any (· ∈ D) an ae nc es.length ec ns next t w' (hrn.frame0 f) hlen)
  have c0 := hb.at 0 rfl
  have c1 := hb.at 1 rfl
  have c2 := hb.at 2 rfl
  have blt := hb.lt
  have HNM := Lib.hid (fun w' => rname_any s w' hs)
  clear hb hrn hz m1 m2 m3 m5 hrf hns hl hs
  by_cases hnm : namedB s = true
  case neg =>
    have e : vLabel ns t s = (2, ns) := by unfold vLabel; rw [if_pos (by simpa using hnm)]
    rw [e]
    rw [show namedB s = false by simpa using hnm] at HNM
    clear e hu hok hnm
    go_enter Try.func93, Try.ntmps93
    go_wp2_with fail
    refine (HNM.out _).mono ?_
    rintro e w2 ⟨rfl, hw2⟩
    obtain rfl : w = w2 := hw2.symm
    clear hw2
    go_wp2_with fail
    go_ret
    exact ⟨rfl, RGEnd.quiet H0.out (by (repeat first | assumption | exact Frame.refl _ _ | refine Frame.trans1 ?_ (Frame.alloc _ _ _) | refine Frame.trans1 ?_ (Frame.drew _ _) | refine Frame.trans1 ?_ (Frame.drewN _ _ _)))⟩
  rw [hnm] at HNM
  by_cases ht : t ∈ ns.map (·.1)
  case neg =>
    have e : vLabel ns t s = (7, ns) := by unfold vLabel; rw [if_neg (by simp [hnm]), if_pos ht]
    rw [e]
    have hp : placeV ns t < 0 := by rcases Int.lt_or_le (placeV ns t) 0 with h | h; exact h; exact absurd (placeV_mem.1 h) ht
    have hd : decide (placeV ns t < 0) = true := by simpa using hp
    clear e ht hu hok hnm
    go_enter Try.func93, Try.ntmps93
    go_wp2_with fail
    refine (HNM.out _).mono ?_
    rintro e w2 ⟨rfl, hw2⟩
    obtain rfl : w = w2 := hw2.symm
    clear hw2
    go_wp2_with fail
    refine (HPL.out _ (by (repeat first | assumption | exact Frame.refl _ _ | refine Frame.trans1 ?_ (Frame.alloc _ _ _) | refine Frame.trans1 ?_ (Frame.drew _ _) | refine Frame.trans1 ?_ (Frame.drewN _ _ _)))).mono ?_
    rintro e w3 ⟨rfl, f3⟩
    have F3 := Lib.hid f3
    clear f3
    go_wp2_with fail
    go_ret
    exact ⟨rfl, RGEnd.quiet H0.out F3.out⟩
  obtain ⟨hpr, hrk⟩ := placeV_rank hu ht
  have hzk : zs[rank (ns.map (·.1)) t]? = some (zs[rank (ns.map (·.1)) t]'(by rw [HM.out.2.2.1]; exact hrk)) := by simp
  generalize zs[rank (ns.map (·.1)) t]'(by rw [HM.out.2.2.1]; exact hrk) = zk at hzk
  have hnk : ns[rank (ns.map (·.1)) t]? = some zk.v := by rw [← HM.out.2.2.2, List.getElem?_map, HM.out.2.2.2, hzk]; rfl
  have HV : Hid (vLabel ns t s = if memS s zk.ls = true then (0, ns) else if 8 ≤ zk.ls.length then (5, ns) else (0, (zs.set (rank (ns.map (·.1)) t) ⟨⟨zk.nd.id, zk.nd.la, zk.nd.ln, zk.nd.lc, zk.nd.pa, zk.nd.pn, zk.nd.pc⟩, srtS (zk.ls ++ [s]), zk.ps⟩).map Zn.v)) := by
    show _ = _
    have hup : UpS zk.ls := (hok _ (List.mem_of_getElem? hnk)).1
    unfold vLabel
    rw [if_neg (by simp [hnm]), if_neg (by simpa using ht), hnk]
    show (if memS s zk.ls = true then _ else if 8 ≤ zk.ls.length then _ else _) = _
    by_cases h1 : memS s zk.ls = true
    · rw [if_pos h1, if_pos h1]
    · rw [if_neg h1, if_neg h1]
      by_cases h2 : 8 ≤ zk.ls.length
      · rw [if_pos h2, if_pos h2]
      · rw [if_neg h2, if_neg h2, List.map_set, HM.out.2.2.2, List.set_eq_take_append_cons_drop, if_pos hrk, srtS_snoc, srtS_sorted hup]
        unfold insS
        rw [if_neg h1]
        rfl
  have hl8 := (hok _ (List.mem_of_getElem? hnk)).2
  have hl8 : zk.ls.length ≤ 1000 := hl8
  generalize vLabel ns t s = q at *
  rw [hpr] at HPL
  have HK := Lib.hid hnk
  clear hnk
  generalize rank (ns.map (·.1)) t = r at *
  have HZK := Lib.hid hzk
  have hzok := HM.out.1 zk (List.mem_of_getElem? hzk)
  obtain ⟨zl, zp, zla, zpa⟩ := hzok
  clear ht hu hpr hok hnm hzk
  have ZL := Lib.hid zla
  have ZP := Lib.hid (And.intro zp zpa)
  clear zla zpa zp
  have hrz : r < zs.length := by rw [HM.out.2.2.1]; exact hrk
  go_enter Try.func93, Try.ntmps93
  go_wp2_with fail
  refine (HNM.out _).mono ?_
  rintro e w2 ⟨rfl, hw2⟩
  obtain rfl : w = w2 := hw2.symm
  clear hw2
  go_wp2_with fail
  refine (HPL.out _ (by (repeat first | assumption | exact Frame.refl _ _ | refine Frame.trans1 ?_ (Frame.alloc _ _ _) | refine Frame.trans1 ?_ (Frame.drew _ _) | refine Frame.trans1 ?_ (Frame.drewN _ _ _)))).mono ?_
  rintro e w3 ⟨rfl, f3⟩
  have F3 := Lib.hid f3
  have hb3 := HB.out.frame f3 (by simp)
  have d0 := hb3.at 0 rfl
  obtain ⟨b, off, rfl, hbD, q1⟩ := (HM.out.2.1.frame0 f3) r _ HZK.out
  have x0 := q1 0 _ rfl
  have x1 := q1 1 _ rfl
  have x2 := q1 2 _ rfl
  simp only [Nat.add_zero] at x0
  clear f3 c0 c1 c2 hb3 q1
  go_wp2_with fail
  have fz : Frame [] w (w3.alloc (.cells #[.int .i64 zk.nd.id, .slice zk.nd.la zk.ls.length zk.nd.lc, .slice zk.nd.pa zk.nd.pn zk.nd.pc] 86)) := F3.out.trans1 (Frame.alloc _ _ _)
  have bz := Blk.new w3 86 #[.int .i64 zk.nd.id, .slice zk.nd.la zk.ls.length zk.nd.lc, .slice zk.nd.pa zk.nd.pn zk.nd.pc]
  have hz3 := F3.out.size
  have fall : Frame [] w w3 := F3.out
  generalize (w3.alloc (.cells #[.int .i64 zk.nd.id, .slice zk.nd.la zk.ls.length zk.nd.lc, .slice zk.nd.pa zk.nd.pn zk.nd.pc] 86)) = w4 at *
  generalize w3.heap.size = zb at *
  have FZ := Lib.hid fz
  have BZ := Lib.hid bz
  clear d0 x0 x1 x2 fz bz fall F3
  by_cases hin : s ∈ zk.ls
  · have e : q = (0, ns) := by rw [HV.out, if_pos (memS_iff.2 hin)]
    have E := Lib.hid e
    refine (InEnd.yes (in_any (· ∈ D) _ zk.nd.lc zk.ls s _ (ZL.out.frame0 FZ.out) (by omega)) hin).mono ?_
    rintro e w5 ⟨i, rfl, f5⟩
    have F5 := Lib.hid (FZ.out.trans1 f5)
    clear f5 e hin HV
    go_wp2_with fail
    go_ret
    rw [E.out]
    exact ⟨rfl, RGEnd.quiet H0.out F5.out⟩
  refine (InEnd.no (in_any (· ∈ D) _ zk.nd.lc zk.ls s _ (ZL.out.frame0 FZ.out) (by omega)) hin).mono ?_
  rintro e w5 ⟨i, rfl, hi, f5⟩
  have HV2 : Hid (q = if 8 ≤ zk.ls.length then (5, ns) else (0, (zs.set r ⟨⟨zk.nd.id, zk.nd.la, zk.ls.length, zk.nd.lc, zk.nd.pa, zk.nd.pn, zk.nd.pc⟩, srtS (zk.ls ++ [s]), zk.ps⟩).map Zn.v)) := by
    show _ = _
    rw [HV.out, if_neg (fun h => hin (memS_iff.1 h)), zl]
  have b5 := BZ.out.frame f5 (by simp)
  have n0 := b5.at 0 rfl
  have n1 := b5.at 1 rfl
  have n2 := b5.at 2 rfl
  have B5 := Lib.hid b5
  have F5 := Lib.hid (FZ.out.trans1 f5)
  have ZL5 := Lib.hid (ZL.out.frame0 (FZ.out.trans1 f5))
  clear f5 hin HV b5
  have hd0 : decide (0 ≤ i) = false := by simp; omega
  by_cases h8 : 8 ≤ zk.ls.length
  · have e : q = (5, ns) := by rw [HV2.out, if_pos h8]
    have E := Lib.hid e
    have hd8 : decide ((8 : Int) ≤ (zk.ls.length : Int)) = true := by simp; omega
    clear e HV2 h8
    go_wp2_with fail
    go_ret
    rw [E.out]
    exact ⟨rfl, RGEnd.quiet H0.out F5.out⟩
  have HV3 : Hid (q = (0, (zs.set r ⟨⟨zk.nd.id, zk.nd.la, zk.ls.length, zk.nd.lc, zk.nd.pa, zk.nd.pn, zk.nd.pc⟩, srtS (zk.ls ++ [s]), zk.ps⟩).map Zn.v)) := by
    show _ = _
    rw [HV2.out, if_neg h8]
  have hd8 : decide ((8 : Int) ≤ (zk.ls.length : Int)) = false := by simp; omega
  clear HV2
  have CA : ∀ o, (w5.alloc o).cell? ⟨zb, 1, none⟩ = some (.slice zk.nd.la zk.ls.length zk.nd.lc) := fun o => (B5.out.alloc o).at 1 rfl
  go_wp2_with first
    | (at_builtin; refine wpList_append_rf rfl (.tmp 37) (.tmp 39) 83 rfl 9 1 16 _ encS Try.underlying83 infoStr rfl (by omega) (.slice (some ⟨w5.heap.size, 0, none⟩) 0 0) [] 0 rfl [w5.heap.size] rfl (sl_empty _ _ _ _) (· ∈ D) _ _ _ zk.ls rfl (ZL5.out.frame0 (Frame.alloc _ _ _)) rfl encS_len encS_one zk.ls.length (by omega) (by omega) (by omega) ?_; intro a6 cap6 w6 G6 sl6 f6 hG6)
    | (at_builtin; refine wpList_append_rf rfl (.tmp 40) (.tmp 42) 83 rfl 9 1 16 _ encS Try.underlying83 infoStr rfl (by omega) (.slice a6 zk.ls.length cap6) ([] ++ zk.ls) zk.ls.length rfl G6 rfl (sl6.frame0 (Frame.alloc _ _ _)) (fun y => y = w6.heap.size) _ 1 1 [s] rfl (rf_one (Blk.new _ _ _) _ rfl) rfl encS_len encS_one (zk.ls.length + 1) rfl (by omega) (by omega) ?_; intro a7 cap7 w7 G7 sl7 f7 hG7; have hb6 : ∀ x ∈ G6, w5.heap.size ≤ x := (fun x hx => by rcases hG6 x hx with h | h <;> simp at h <;> omega); have f57 : Frame [] w5 w7 := (((Frame.alloc [] w5 _).trans f6 (fun x hx => by simp at hx; subst hx; exact .inr (Nat.le_refl _))).trans1 (Frame.alloc [] w6 _)).trans f7 (fun x hx => .inr (hb6 x hx)); have F57 := Lib.hid f57; have S7 := Lib.hid sl7; clear sl6 f6 hG6 sl7 f7 hG7 hb6 f57)
  have HS : Calls Try.prog 134 #[.slice a7 (zk.ls.length + 1) cap7] w7 (SrtEnd (zk.ls ++ [s]) w7) := by
    have := sortT_any (· ∈ G7) a7 cap7 (zk.ls ++ [s]) w7 (by have := S7.out.rf encS_len (U := (· ∈ G7)) (fun x hx => hx); simpa using this) (by simp; omega)
    simpa using this
  refine HS.mono ?_
  rintro e w8 ⟨a8, c8, G8, rfl, sl8, f8, hG8⟩
  have b8 := (B5.out.frame F57.out (by simp)).frame f8 (by simp)
  have zlt := (B5.out.frame F57.out (by simp)).lt
  have h87 := f8.size
  have h57 := F57.out.size
  have hw5 := F5.out.size
  have n0 := b8.at 0 rfl
  have n1 := b8.at 1 rfl
  have n2 := b8.at 2 rfl
  have n3 := b8.frozen 1
  have b9 := b8.set 1 (.slice a8 (srtS (zk.ls ++ [s])).length c8)
  have o0 := b9.at 0 rfl
  have o1 := b9.at 1 rfl
  have o2 := b9.at 2 rfl
  have F8 := Lib.hid ((F5.out.trans1 F57.out).trans1 f8)
  have S8 := Lib.hid (And.intro sl8 hG8)
  clear HS f8 b8 b9 sl8 hG8 CA
  go_wp2_with fail
  have fS : Frame [zb] w8 (w8.setCell ⟨zb, 1, none⟩ (.slice a8 (srtS (zk.ls ++ [s])).length c8)) := Frame.setCell _ _ _ (by simp)
  have fw : Frame [] w (w8.setCell ⟨zb, 1, none⟩ (.slice a8 (srtS (zk.ls ++ [s])).length c8)) := F8.out.trans fS (fun x hx => by simp at hx; subst hx; right; exact hz3)
  have sS := fS.size
  have hne : ∀ x ∈ G8, x ∉ [zb] := fun x hx hm => by simp at hm; subst hm; have := S8.out.2 x hx; omega
  refine (rg_change' HZ.out fw (by rw [HM.out.2.2.1]; exact hlen) r hrz ⟨⟨zk.nd.id, a8, (srtS (zk.ls ++ [s])).length, c8, zk.nd.pa, zk.nd.pn, zk.nd.pc⟩, srtS (zk.ls ++ [s]), zk.ps⟩ ⟨rfl, ZP.out.1, ?_, ?_⟩).mono ?_
  · exact (S8.out.1.frame fS hne).rf encS_len (fun x hx => .inr ⟨by have := S8.out.2 x hx; omega, Nat.lt_of_lt_of_le (S8.out.1.lt x hx) sS⟩)
  · exact (ZP.out.2.frame fw (by simp)).mono (fun b hb => .inl hb)
  rintro e w9 ⟨rfl, hE⟩
  have HE := Lib.hid hE
  clear hE fS fw hne n0 n1 n2 n3 o0 o1 o2
  go_wp2_with fail
  go_ret
  rw [HV3.out]
  refine ⟨rfl, ?_⟩
  have := HE.out
  rw [List.map_set] at this ⊢
  exact this
end Go.Proofs.Ytolkmapdbilolaa

