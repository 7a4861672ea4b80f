/- A graph's calls: Label. -/
import Derived.Test.YtolkmapdbilolaaMg13
namespace Go.Proofs.Ytolkmapdbilolaa
open Go.RowKit
set_option linter.unusedSimpArgs false
set_option linter.unusedVariables false

theorem GG.gst {w : World} {pb : Nat} {F : List Nat} {rs : List Rn} {es : List Ed} {given : Int} (h : GG w pb F rs es given) : ∃ FG, GSt w pb FG (rs.map (·.nd)) es given := by
  obtain ⟨FG, h1, _⟩ := h; exact ⟨FG, h1⟩
/-- find, as GG has it. -/
theorem gg_find {w : World} {pb : Nat} {F : List Nat} {rs : List Rn} {es : List Ed} {given : Int} (h : GG w pb F rs es given) (hu : Up ((rs.map (·.nd)).map (·.id))) (hn : rs.length ≤ 1000000) (t : Int) (w' : World) (f : Frame [] w w') :
    Calls Try.prog 64 #[.pointer (some ⟨pb, 0, none⟩), .int .i64 t] w' fun e w'' => e = .returned (.tuple #[.int .i64 (rank ((rs.map (·.nd)).map (·.id)) t), .bool (decide (t ∈ (rs.map (·.nd)).map (·.id)))]) ∧ Frame [] w' w'' := by
  obtain ⟨FG, h1⟩ := (h.frame f (by simp)).gst
  exact gfind_any h1 hu (by rw [List.length_map]; exact hn) t
theorem rank_mid {xs bs : List Int} {t : Int} (hu : Up (xs ++ t :: bs)) : rank (xs ++ t :: bs) t = xs.length := by
  obtain ⟨u1, u2, u3⟩ := List.pairwise_append.1 hu
  have u4 := List.pairwise_cons.1 u2
  unfold rank
  rw [List.countP_append, List.countP_eq_length.2 (fun a ha => by simpa using u3 a ha t (by simp)), List.countP_eq_zero.2 (fun a ha => ?_)]
  · rfl
  · rcases List.mem_cons.1 ha with rfl | ha
    · simp
    · have := u4.1 a ha; simp; omega
theorem rank_split {A B : List Rn} {r : Rn} (hu : Up (((A ++ r :: B).map (·.nd)).map (·.id))) : rank (((A ++ r :: B).map (·.nd)).map (·.id)) r.nd.id = A.length ∧ r.nd.id ∈ ((A ++ r :: B).map (·.nd)).map (·.id) := by
  refine ⟨?_, by simp⟩
  have hu' := hu
  rw [List.map_append, List.map_cons, List.map_append, List.map_cons] at hu' ⊢
  rw [rank_mid hu', List.length_map, List.length_map]

section
variable {w : World} {pb b nc : Nat} {ae : Option Addr} {ec : Nat} {H : List Nat} {A B : List Rn} {r : Rn} {es : List Ed} {given : Int} {F : List Nat}
theorem glabel_name {rs : List Rn} (h : GG w pb F rs es given) (hu : Up ((rs.map (·.nd)).map (·.id))) (hn : rs.length ≤ 1000000) (t : Int) (s : ByteArray) (hl : s.size ≤ 9223372036854775807) (hs : namedB s = false) :
    Calls Try.prog 36 #[.pointer (some ⟨pb, 0, none⟩), .int .i64 t, .string s] w fun e w' => e = .returned (.int .i64 2) ∧ Frame [] w w' := by
  have hc := gg_find h hu hn t w (Frame.refl _ _)
  generalize rank ((rs.map (·.nd)).map (·.id)) t = k at *
  generalize decide (t ∈ (rs.map (·.nd)).map (·.id)) = d at *
  have HC := Lib.hid hc
  have HS := Lib.hid hs
  clear hc h hu hs
  go_enter Try.func36, Try.ntmps36
  go_wp2_with fail
  refine HC.out.mono ?_
  rintro e w3 ⟨rfl, f3⟩
  have F3 := Lib.hid f3
  clear f3
  go_wp2_with fail
  refine (named_any s _ hl).mono ?_
  rintro e w' ⟨rfl, rfl⟩
  rw [HS.out]
  go_wp2_with fail
  go_ret
  exact ⟨rfl, F3.out⟩
theorem glabel_none {rs : List Rn} (h : GG w pb F rs es given) (hu : Up ((rs.map (·.nd)).map (·.id))) (hn : rs.length ≤ 1000000) (t : Int) (s : ByteArray) (hl : s.size ≤ 9223372036854775807) (hs : namedB s = true) (hm : t ∉ (rs.map (·.nd)).map (·.id)) :
    Calls Try.prog 36 #[.pointer (some ⟨pb, 0, none⟩), .int .i64 t, .string s] w fun e w' => e = .returned (.int .i64 7) ∧ Frame [] w w' := by
  have hc := gg_find h hu hn t w (Frame.refl _ _)
  rw [decide_eq_false hm] at hc
  generalize rank ((rs.map (·.nd)).map (·.id)) t = k at *
  have HC := Lib.hid hc
  have HS := Lib.hid hs
  clear hc h hu hs hm
  go_enter Try.func36, Try.ntmps36
  go_wp2_with fail
  refine HC.out.mono ?_
  rintro e w3 ⟨rfl, f3⟩
  have F3 := Lib.hid f3
  clear f3
  go_wp2_with fail
  refine (named_any s _ hl).mono ?_
  rintro e w' ⟨rfl, rfl⟩
  rw [HS.out]
  go_wp2_with fail
  go_ret
  exact ⟨rfl, F3.out⟩

set_option maxHeartbeats 1000000 in
set_option maxRecDepth 100000 in
theorem glabel_has (hg : GG w pb F (A ++ r :: B) es given) (hu : Up (((A ++ r :: B).map (·.nd)).map (·.id))) (hn : (A ++ r :: B).length ≤ 1000000) (s : ByteArray) (hl : s.size ≤ 9223372036854775807) (hs : namedB s = true) (hul : UpS r.ls) (hm : memS s r.ls = true) :
    Calls Try.prog 36 #[.pointer (some ⟨pb, 0, none⟩), .int .i64 r.nd.id, .string s] w fun e w' => e = .returned (.int .i64 0) ∧ Frame [] w w' := by
  have hc := gg_find hg hu hn r.nd.id w (Frame.refl _ _)
  rw [(rank_split hu).1, decide_eq_true (rank_split hu).2] at hc
  obtain ⟨b, nc, ae, ec, H, hp, rfl⟩ := hg.parts
  have hok := hp.ok r (by simp)
  have hrow := hp.row
  have hlen : ((A ++ r :: B).map (·.nd)).length = (A ++ r :: B).length := List.length_map _
  have hAn : A.length < (A ++ r :: B).length := by simp
  have hcell : ∀ j u, r.nd.cs[j]? = some u → (((A ++ r :: B).map (·.nd)).flatMap Nd.cs)[A.length * 3 + j]? = some u := fun j u hj => flat_get nd_len (by simp) hj
  have k1 := hcell 1 _ rfl
  obtain ⟨⟨hln, hpn, hsl, hsp, hdj⟩, hl1, hl2⟩ := hok
  have SL := Lib.hid hsl
  have BS := Lib.hid (fun w' (f : Frame [] w w') => bs_str r.nd.la r.nd.lc r.ls r.L s w' (hsl.frame0 f) hul (by omega))
  have HC := Lib.hid hc
  have HP := Lib.hid hp
  have HS := Lib.hid hs
  have HM := Lib.hid hm
  have CELL := Lib.hid (fun w' (f : Frame [] w w') => (hrow.frame f (by simp)).cell k1)
  have OBJ := Lib.hid hp.obj
  have ROWX := Lib.hid hrow
  have HN := Lib.hid hn
  have hd := hp.disj
  have DJ := Lib.hid hd
  have LEN := Lib.hid (show r.nd.ln = r.ls.length from hln)
  have hrk := rankS_le r.ls s
  generalize rankS r.ls s = k at *
  rw [HM.out] at BS
  clear hc hg hu hs hm hp hrow hlen hcell k1 hln hpn hsl hsp hdj hul hd
  rw [LEN.out] at CELL
  generalize (A ++ r :: B).length = n at *
  go_enter Try.func36, Try.ntmps36
  go_wp2_with fail
  refine HC.out.mono ?_
  rintro e w3 ⟨rfl, f3⟩
  have F3 := Lib.hid f3
  clear f3
  go_wp2_with fail
  refine (named_any s _ hl).mono ?_
  rintro e w' ⟨rfl, rfl⟩
  rw [HS.out]
  have hob := OBJ.out.frame F3.out (by simp)
  have c0 := hob.at 0 rfl
  have c1 := CELL.out _ F3.out
  have OB := Lib.hid hob
  clear hob
  go_wp2_with fail
  refine (BS.out _ F3.out).mono ?_
  rintro e w4 ⟨rfl, f4⟩
  have F4 := Lib.hid (F3.out.trans1 f4)
  clear f4 c0 c1
  go_wp2_with fail
  go_ret
  exact ⟨rfl, F4.out⟩

set_option maxHeartbeats 1000000 in
set_option maxRecDepth 100000 in
theorem glabel_full (hg : GG w pb F (A ++ r :: B) es given) (hu : Up (((A ++ r :: B).map (·.nd)).map (·.id))) (hn : (A ++ r :: B).length ≤ 1000000) (s : ByteArray) (hl : s.size ≤ 9223372036854775807) (hs : namedB s = true) (hul : UpS r.ls) (hm : memS s r.ls = false) (h8 : 8 ≤ r.ls.length) :
    Calls Try.prog 36 #[.pointer (some ⟨pb, 0, none⟩), .int .i64 r.nd.id, .string s] w fun e w' => e = .returned (.int .i64 5) ∧ Frame [] w w' := by
  have hc := gg_find hg hu hn r.nd.id w (Frame.refl _ _)
  rw [(rank_split hu).1, decide_eq_true (rank_split hu).2] at hc
  obtain ⟨b, nc, ae, ec, H, hp, rfl⟩ := hg.parts
  have hok := hp.ok r (by simp)
  have hrow := hp.row
  have hlen : ((A ++ r :: B).map (·.nd)).length = (A ++ r :: B).length := List.length_map _
  have hAn : A.length < (A ++ r :: B).length := by simp
  have hcell : ∀ j u, r.nd.cs[j]? = some u → (((A ++ r :: B).map (·.nd)).flatMap Nd.cs)[A.length * 3 + j]? = some u := fun j u hj => flat_get nd_len (by simp) hj
  have k1 := hcell 1 _ rfl
  obtain ⟨⟨hln, hpn, hsl, hsp, hdj⟩, hl1, hl2⟩ := hok
  have SL := Lib.hid hsl
  have BS := Lib.hid (fun w' (f : Frame [] w w') => bs_str r.nd.la r.nd.lc r.ls r.L s w' (hsl.frame0 f) hul (by omega))
  have HC := Lib.hid hc
  have HP := Lib.hid hp
  have HS := Lib.hid hs
  have HM := Lib.hid hm
  have CELL := Lib.hid (fun w' (f : Frame [] w w') => (hrow.frame f (by simp)).cell k1)
  have OBJ := Lib.hid hp.obj
  have ROWX := Lib.hid hrow
  have HN := Lib.hid hn
  have hd := hp.disj
  have DJ := Lib.hid hd
  have LEN := Lib.hid (show r.nd.ln = r.ls.length from hln)
  have hrk := rankS_le r.ls s
  generalize rankS r.ls s = k at *
  rw [HM.out] at BS
  clear hc hg hu hs hm hp hrow hlen hcell k1 hln hpn hsl hsp hdj hul hd
  rw [LEN.out] at CELL
  generalize (A ++ r :: B).length = n at *
  go_enter Try.func36, Try.ntmps36
  go_wp2_with fail
  refine HC.out.mono ?_
  rintro e w3 ⟨rfl, f3⟩
  have F3 := Lib.hid f3
  clear f3
  go_wp2_with fail
  refine (named_any s _ hl).mono ?_
  rintro e w' ⟨rfl, rfl⟩
  rw [HS.out]
  have hob := OBJ.out.frame F3.out (by simp)
  have c0 := hob.at 0 rfl
  have c1 := CELL.out _ F3.out
  have OB := Lib.hid hob
  clear hob
  go_wp2_with fail
  refine (BS.out _ F3.out).mono ?_
  rintro e w4 ⟨rfl, f4⟩
  have F4 := Lib.hid (F3.out.trans1 f4)
  clear f4 c0 c1
  go_wp2_with fail
  go_ret
  exact ⟨rfl, F4.out⟩

set_option maxHeartbeats 1000000 in
set_option maxRecDepth 100000 in
theorem glabel_ins (hg : GG w pb F (A ++ r :: B) es given) (hu : Up (((A ++ r :: B).map (·.nd)).map (·.id))) (hn : (A ++ r :: B).length ≤ 1000000) (s : ByteArray) (hl : s.size ≤ 9223372036854775807) (hs : namedB s = true) (hul : UpS r.ls) (hm : memS s r.ls = false) (h8 : r.ls.length < 8) :
    Calls Try.prog 36 #[.pointer (some ⟨pb, 0, none⟩), .int .i64 r.nd.id, .string s] w fun e w' => e = .returned (.int .i64 0) ∧ ∃ r' F', r'.tell = (r.nd.id, r.ls.take (rankS r.ls s) ++ s :: r.ls.drop (rankS r.ls s), r.ps) ∧ GG w' pb F' (A ++ r' :: B) es given ∧ Frame F w w' ∧ ∀ x ∈ F', x ∈ F ∨ w.heap.size ≤ x := by
  have hc := gg_find hg hu hn r.nd.id w (Frame.refl _ _)
  rw [(rank_split hu).1, decide_eq_true (rank_split hu).2] at hc
  obtain ⟨b, nc, ae, ec, H, hp, rfl⟩ := hg.parts
  have hok := hp.ok r (by simp)
  have hrow := hp.row
  have hlen : ((A ++ r :: B).map (·.nd)).length = (A ++ r :: B).length := List.length_map _
  have hAn : A.length < (A ++ r :: B).length := by simp
  have hcell : ∀ j u, r.nd.cs[j]? = some u → (((A ++ r :: B).map (·.nd)).flatMap Nd.cs)[A.length * 3 + j]? = some u := fun j u hj => flat_get nd_len (by simp) hj
  have k1 := hcell 1 _ rfl
  obtain ⟨⟨hln, hpn, hsl, hsp, hdj⟩, hl1, hl2⟩ := hok
  have SL := Lib.hid hsl
  have BS := Lib.hid (fun w' (f : Frame [] w w') => bs_str r.nd.la r.nd.lc r.ls r.L s w' (hsl.frame0 f) hul (by omega))
  have HC := Lib.hid hc
  have HP := Lib.hid hp
  have HS := Lib.hid hs
  have HM := Lib.hid hm
  have CELL := Lib.hid (fun w' (f : Frame [] w w') => (hrow.frame f (by simp)).cell k1)
  have OBJ := Lib.hid hp.obj
  have ROWX := Lib.hid hrow
  have HN := Lib.hid hn
  have hd := hp.disj
  have DJ := Lib.hid hd
  have LEN := Lib.hid (show r.nd.ln = r.ls.length from hln)
  have hrk := rankS_le r.ls s
  generalize rankS r.ls s = k at *
  rw [HM.out] at BS
  clear hc hg hu hs hm hp hrow hlen hcell k1 hln hpn hsl hsp hdj hul hd
  rw [LEN.out] at CELL
  generalize (A ++ r :: B).length = n at *
  go_enter Try.func36, Try.ntmps36
  go_wp2_with fail
  refine HC.out.mono ?_
  rintro e w3 ⟨rfl, f3⟩
  have F3 := Lib.hid f3
  clear f3
  go_wp2_with fail
  refine (named_any s _ hl).mono ?_
  rintro e w' ⟨rfl, rfl⟩
  rw [HS.out]
  have hob := OBJ.out.frame F3.out (by simp)
  have c0 := hob.at 0 rfl
  have c1 := CELL.out _ F3.out
  have OB := Lib.hid hob
  clear hob
  go_wp2_with fail
  refine (BS.out _ F3.out).mono ?_
  rintro e w4 ⟨rfl, f4⟩
  have F4 := Lib.hid (F3.out.trans1 f4)
  clear f4 c0 c1
  have hob := OBJ.out.frame F4.out (by simp)
  have c0 := hob.at 0 rfl
  have OB4 := Lib.hid hob
  clear hob
  have SL4 := Lib.hid (SL.out.frame0 F4.out)
  have hpbL : pb ∉ r.L := fun h => (DJ.out.2.2.2.1 r (by simp)).1 (by simp [Rn.bl, h])
  have hbL : b ∉ r.L := fun h => (DJ.out.2.2.2.1 r (by simp)).2.1 (by simp [Rn.bl, h])
  have hpb : pb ≠ b := DJ.out.1
  have hbp : b ≠ pb := fun e => hpb e.symm
  have ROW4 := Lib.hid (ROWX.out.frame F4.out (by simp))
  go_wp2_with fail
  go_region_held3 (fun w' => w'.cell? ⟨pb, 0, none⟩ = some (.slice (some ⟨b, 0, none⟩) n nc)) (go_keep)
    ((go_at_call 79; refine (ins_str_any (.slice r.nd.la r.ls.length r.nd.lc) r.ls s r.L _ k _ (SL4.out.frame0 (by (repeat first | assumption | exact Frame.refl _ _ | refine Frame.trans1 ?_ (Frame.alloc _ _ _) | refine Frame.trans1 ?_ (Frame.drew _ _) | refine Frame.trans1 ?_ (Frame.drewN _ _ _)))) ((Blk.new _ _ _).drew) (fun hm => absurd (SL4.out.lt _ hm) (Nat.lt_irrefl _)) (by omega) hrk).mono ?_; rintro e w5 ⟨b', cap', rfl, sl5, f5, hb5⟩; have f45 : Frame r.L w4 w5 := (show Frame r.L w4 _ from by (repeat first | assumption | exact Frame.refl _ _ | refine Frame.trans1 ?_ (Frame.alloc _ _ _) | refine Frame.trans1 ?_ (Frame.drew _ _) | refine Frame.trans1 ?_ (Frame.drewN _ _ _))).trans1 f5; have c0 := (OB4.out.frame f45 hpbL).at 0 rfl; have z1 := (ROW4.out.frame f45 hbL).frozen (A.length * 3 + 1); have q1 := (ROW4.out.frame f45 hbL).cell (i := A.length * 3 + 1) (v := .slice r.nd.la r.ls.length r.nd.lc) (by rw [← LEN.out]; exact flat_get nd_len (show ((A ++ r :: B).map (·.nd))[A.length]? = some r.nd by simp) (j := 1) rfl)))
  go_wp2_with fail
  go_ret
  have P := HP.out
  have hP := HP.out.ok r (by simp)
  have hkl : (r.ls.take k ++ s :: r.ls.drop k).length = r.ls.length + 1 := by simp; omega
  have f5' : Frame r.L w w5 := (F4.out.mono (by simp)).trans1 f45
  have fs : Frame [b] w5 (w5.setCell ⟨b, A.length * 3 + 1, none⟩ (.slice (some ⟨b', 0, none⟩) (r.ls.length + 1) cap')) := Frame.setCell _ _ _ (by simp)
  have fr' : Frame (b :: r.L) w (w5.setCell ⟨b, A.length * 3 + 1, none⟩ (.slice (some ⟨b', 0, none⟩) (r.ls.length + 1) cap')) := (f5'.mono (fun x hx => .inl (by simp [hx]))).trans1 (fs.mono (fun x hx => .inl (by simp at hx; simp [hx])))
  have fr := fr'.mono (S' := b :: r.bl) (fun x hx => .inl (by simp at hx; rcases hx with hx | hx <;> simp [Rn.bl, hx]))
  have hb'w : b' ∈ r.L ∨ w.heap.size ≤ b' := by
    rcases hb5 with h | h
    · exact .inl h
    · right; have := F4.out.size; simp at h; omega
  have hbw := P.row.lt
  have hb'b : b' ≠ b := by
    rcases hb'w with h | h
    · exact fun e => hbL (e ▸ h)
    · omega
  have hb'P : b' ∉ r.P := by
    rcases hb'w with h | h
    · exact hP.1.2.2.2.2 b' h
    · intro hm; have := hP.1.2.2.2.1.lt b' hm; omega
  have g1 : RowAt (w5.setCell ⟨b, A.length * 3 + 1, none⟩ (.slice (some ⟨b', 0, none⟩) (r.ls.length + 1) cap')) b 86 3 (A ++ r :: B).length nc (((A ++ (⟨⟨r.nd.id, some ⟨b', 0, none⟩, r.ls.length + 1, cap', r.nd.pa, r.nd.pn, r.nd.pc⟩, r.ls.take k ++ s :: r.ls.drop k, r.ps, [b'], r.P⟩ : Rn) :: B).map (·.nd)).flatMap Nd.cs) := by
    have hr5 := P.row.frame f5' hbL
    rw [List.map_append, List.map_cons] at hr5 ⊢
    have := RowAt.put (y := ⟨r.nd.id, some ⟨b', 0, none⟩, r.ls.length + 1, cap', r.nd.pa, r.nd.pn, r.nd.pc⟩) (j := 1) (u := .slice (some ⟨b', 0, none⟩) (r.ls.length + 1) cap') hr5 nd_len (by omega) rfl
    rw [List.length_map] at this
    exact this
  have g2 := sl5.frame fs (by simpa using hb'b)
  rw [← hkl] at g2
  have g3 := hP.1.2.2.2.1.frame fr' (fun x hx hm => by
    simp at hm
    rcases hm with hm | hm
    · exact (DJ.out.2.2.2.1 r (by simp)).2.1 (by simp [Rn.bl]; exact .inr (hm ▸ hx))
    · exact hP.1.2.2.2.2 x hm hx)
  have g4 : ∀ x ∈ [b'] ++ r.P, x ∈ r.bl ∨ w.heap.size ≤ x := by
    intro x hx
    simp at hx
    rcases hx with rfl | hx
    · rcases hb'w with h | h
      · exact .inl (by simp [Rn.bl, h])
      · exact .inr h
    · exact .inl (by simp [Rn.bl, hx])
  have g5 : ([b'] ++ r.P).Nodup := by
    have := List.nodup_append.1 (DJ.out.2.2.2.2.2.2.2 : (r.L ++ r.P).Nodup)
    exact List.nodup_append.2 ⟨by simp, this.2.1, fun x hx y hy e => by simp at hx; subst hx; subst e; exact hb'P hy⟩
  rw [hkl] at g2
  obtain ⟨F', a1, a2, a3⟩ := Parts.put P fr g1 ⟨⟨hkl.symm, hP.1.2.1, by rw [hkl]; exact g2, g3, by simpa using hb'P⟩, by rw [hkl]; omega, hP.2.2⟩ g4 g5
  exact ⟨rfl, _, F', by simp [Rn.tell], a1, a2, a3⟩
end
end Go.Proofs.Ytolkmapdbilolaa

