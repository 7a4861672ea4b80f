/- A graph's calls: Set. -/
import Derived.Test.YtjcajidgaejhoaaMi23
namespace Go.Proofs.Ytjcajidgaejhoaa
open Go.RowKit
set_option linter.unusedSimpArgs false
set_option linter.unusedVariables false
section
variable {w : World} {pb b nc : Nat} {ae : Option Addr} {ec : Nat} {H : List Nat} {A B : List Rn} {r : Rn} {es : List Ed} {given : Int} {F : List Nat}
theorem gset_name {rs : List Rn} (h : GG w pb F rs es given) (hu : Up ((rs.map (·.nd)).map (·.id))) (hn : rs.length ≤ 1000000) (t : Int) (s v : ByteArray) (hl : s.size ≤ 9223372036854775807) (hs : namedB s = false) :
    Calls Try.prog 36 #[.pointer (some ⟨pb, 0, none⟩), .int .i64 t, .string s, .string v] w fun e w' => e = .returned (.int .i64 2) ∧ Frame [] w w' := by
  have hc := gg_find h hu hn t w (Frame.refl _ _)
  generalize rank ((rs.map (·.nd)).map (·.id)) t = k at *
  generalize decide (t ∈ (rs.map (·.nd)).map (·.id)) = d at *
  have HC := Lib.hid hc
  have HS := Lib.hid hs
  clear hc h hu hs
  go_enter Try.func36, Try.ntmps36
  go_wp2_with fail
  refine HC.out.mono ?_
  rintro e w3 ⟨rfl, f3⟩
  have F3 := Lib.hid f3
  clear f3
  go_wp2_with fail
  refine (named_any s _ hl).mono ?_
  rintro e w' ⟨rfl, rfl⟩
  rw [HS.out]
  go_wp2_with fail
  go_ret
  exact ⟨rfl, F3.out⟩
theorem gset_value {rs : List Rn} (h : GG w pb F rs es given) (hu : Up ((rs.map (·.nd)).map (·.id))) (hn : rs.length ≤ 1000000) (t : Int) (s v : ByteArray) (hl : s.size ≤ 9223372036854775807) (hs : namedB s = true) (hlv : v.size ≤ 9223372036854775807) (hsv : namedB v = false) :
    Calls Try.prog 36 #[.pointer (some ⟨pb, 0, none⟩), .int .i64 t, .string s, .string v] w fun e w' => e = .returned (.int .i64 2) ∧ Frame [] w w' := by
  have hc := gg_find h hu hn t w (Frame.refl _ _)
  generalize rank ((rs.map (·.nd)).map (·.id)) t = k at *
  generalize decide (t ∈ (rs.map (·.nd)).map (·.id)) = d at *
  have HC := Lib.hid hc
  have HS := Lib.hid hs
  have HV := Lib.hid hsv
  clear hc h hu hs hsv
  go_enter Try.func36, Try.ntmps36
  go_wp2_with fail
  refine HC.out.mono ?_
  rintro e w3 ⟨rfl, f3⟩
  have F3 := Lib.hid f3
  clear f3
  go_wp2_with fail
  refine (named_any s _ hl).mono ?_
  rintro e w' ⟨rfl, rfl⟩
  rw [HS.out]
  go_wp2_with fail
  refine (named_any v _ hlv).mono ?_
  rintro e w' ⟨rfl, rfl⟩
  rw [HV.out]
  go_wp2_with fail
  go_ret
  exact ⟨rfl, F3.out⟩
theorem gset_none {rs : List Rn} (h : GG w pb F rs es given) (hu : Up ((rs.map (·.nd)).map (·.id))) (hn : rs.length ≤ 1000000) (t : Int) (s v : ByteArray) (hl : s.size ≤ 9223372036854775807) (hs : namedB s = true) (hlv : v.size ≤ 9223372036854775807) (hsv : namedB v = true) (hm : t ∉ (rs.map (·.nd)).map (·.id)) :
    Calls Try.prog 36 #[.pointer (some ⟨pb, 0, none⟩), .int .i64 t, .string s, .string v] w fun e w' => e = .returned (.int .i64 7) ∧ Frame [] w w' := by
  have hc := gg_find h hu hn t w (Frame.refl _ _)
  rw [decide_eq_false hm] at hc
  generalize rank ((rs.map (·.nd)).map (·.id)) t = k at *
  have HC := Lib.hid hc
  have HS := Lib.hid hs
  have HV := Lib.hid hsv
  clear hc h hu hs hm hsv
  go_enter Try.func36, Try.ntmps36
  go_wp2_with fail
  refine HC.out.mono ?_
  rintro e w3 ⟨rfl, f3⟩
  have F3 := Lib.hid f3
  clear f3
  go_wp2_with fail
  refine (named_any s _ hl).mono ?_
  rintro e w' ⟨rfl, rfl⟩
  rw [HS.out]
  go_wp2_with fail
  refine (named_any v _ hlv).mono ?_
  rintro e w' ⟨rfl, rfl⟩
  rw [HV.out]
  go_wp2_with fail
  go_ret
  exact ⟨rfl, F3.out⟩

set_option maxHeartbeats 1000000 in
set_option maxRecDepth 100000 in
theorem gset_full (hg : GG w pb F (A ++ r :: B) es given) (hu : Up (((A ++ r :: B).map (·.nd)).map (·.id))) (hn : (A ++ r :: B).length ≤ 1000000) (s v : ByteArray) (hl : s.size ≤ 9223372036854775807) (hs : namedB s = true) (hlv : v.size ≤ 9223372036854775807) (hsv : namedB v = true) (hul : UpS (r.ps.map (·.name))) (hm : memS s (r.ps.map (·.name)) = false) (h8 : 8 ≤ r.ps.length) :
    Calls Try.prog 36 #[.pointer (some ⟨pb, 0, none⟩), .int .i64 r.nd.id, .string s, .string v] w fun e w' => e = .returned (.int .i64 5) ∧ Frame [] w w' := by
  have hc := gg_find hg hu hn r.nd.id w (Frame.refl _ _)
  rw [(rank_split hu).1, decide_eq_true (rank_split hu).2] at hc
  obtain ⟨b, nc, ae, ec, H, hp, rfl⟩ := hg.parts
  have hok := hp.ok r (by simp)
  have hrow := hp.row
  have hlen : ((A ++ r :: B).map (·.nd)).length = (A ++ r :: B).length := List.length_map _
  have hAn : A.length < (A ++ r :: B).length := by simp
  have hcell : ∀ j u, r.nd.cs[j]? = some u → (((A ++ r :: B).map (·.nd)).flatMap Nd.cs)[A.length * 3 + j]? = some u := fun j u hj => flat_get nd_len (by simp) hj
  have k1 := hcell 2 _ rfl
  obtain ⟨⟨hln, hpn, hsl, hsp, hdj⟩, hl1, hl2⟩ := hok
  have SL := Lib.hid hsp
  have BS := Lib.hid (fun w' (f : Frame [] w w') => bsf_prop r.nd.pa r.nd.pc r.ps r.P s w' (hsp.frame0 f) hul (by omega))
  have HC := Lib.hid hc
  have HP := Lib.hid hp
  have HS := Lib.hid hs
  have HV := Lib.hid hsv
  have HM := Lib.hid hm
  have CELL := Lib.hid (fun w' (f : Frame [] w w') => (hrow.frame f (by simp)).cell k1)
  have OBJ := Lib.hid hp.obj
  have ROWX := Lib.hid hrow
  have HN := Lib.hid hn
  have hd := hp.disj
  have DJ := Lib.hid hd
  have LEN := Lib.hid (show r.nd.pn = r.ps.length from hpn)
  have hrk := rankS_le (r.ps.map (·.name)) s
  rw [List.length_map] at hrk
  generalize rankS (r.ps.map (·.name)) s = k at *
  rw [HM.out] at BS
  clear hc hg hu hs hsv hm hp hrow hlen hcell k1 hln hpn hsl hsp hdj hul hd
  rw [LEN.out] at CELL
  generalize (A ++ r :: B).length = n at *
  go_enter Try.func36, Try.ntmps36
  go_wp2_with fail
  refine HC.out.mono ?_
  rintro e w3 ⟨rfl, f3⟩
  have F3 := Lib.hid f3
  clear f3
  go_wp2_with fail
  refine (named_any s _ hl).mono ?_
  rintro e w' ⟨rfl, rfl⟩
  rw [HS.out]
  go_wp2_with fail
  refine (named_any v _ hlv).mono ?_
  rintro e w' ⟨rfl, rfl⟩
  rw [HV.out]
  have hob := OBJ.out.frame F3.out (by simp)
  have c0 := hob.at 0 rfl
  have c1 := CELL.out _ F3.out
  have OB := Lib.hid hob
  clear hob
  go_wp2_with fail
  refine (BS.out _ F3.out).mono ?_
  rintro e w4 ⟨rfl, f4⟩
  have F4 := Lib.hid (F3.out.trans1 f4)
  clear f4 c0 c1
  go_wp2_with fail
  go_ret
  exact ⟨rfl, F4.out⟩

set_option maxHeartbeats 1000000 in
set_option maxRecDepth 100000 in
theorem gset_ins (hg : GG w pb F (A ++ r :: B) es given) (hu : Up (((A ++ r :: B).map (·.nd)).map (·.id))) (hn : (A ++ r :: B).length ≤ 1000000) (s v : ByteArray) (hl : s.size ≤ 9223372036854775807) (hs : namedB s = true) (hlv : v.size ≤ 9223372036854775807) (hsv : namedB v = true) (hul : UpS (r.ps.map (·.name))) (hm : memS s (r.ps.map (·.name)) = false) (h8 : r.ps.length < 8) :
    Calls Try.prog 36 #[.pointer (some ⟨pb, 0, none⟩), .int .i64 r.nd.id, .string s, .string v] w fun e w' => e = .returned (.int .i64 0) ∧ ∃ r' F', r'.tell = (r.nd.id, r.ls, r.ps.take (rankS (r.ps.map (·.name)) s) ++ ⟨s, v⟩ :: r.ps.drop (rankS (r.ps.map (·.name)) s)) ∧ GG w' pb F' (A ++ r' :: B) es given ∧ Frame F w w' ∧ ∀ x ∈ F', x ∈ F ∨ w.heap.size ≤ x := by
  have hc := gg_find hg hu hn r.nd.id w (Frame.refl _ _)
  rw [(rank_split hu).1, decide_eq_true (rank_split hu).2] at hc
  obtain ⟨b, nc, ae, ec, H, hp, rfl⟩ := hg.parts
  have hok := hp.ok r (by simp)
  have hrow := hp.row
  have hlen : ((A ++ r :: B).map (·.nd)).length = (A ++ r :: B).length := List.length_map _
  have hAn : A.length < (A ++ r :: B).length := by simp
  have hcell : ∀ j u, r.nd.cs[j]? = some u → (((A ++ r :: B).map (·.nd)).flatMap Nd.cs)[A.length * 3 + j]? = some u := fun j u hj => flat_get nd_len (by simp) hj
  have k1 := hcell 2 _ rfl
  obtain ⟨⟨hln, hpn, hsl, hsp, hdj⟩, hl1, hl2⟩ := hok
  have SL := Lib.hid hsp
  have BS := Lib.hid (fun w' (f : Frame [] w w') => bsf_prop r.nd.pa r.nd.pc r.ps r.P s w' (hsp.frame0 f) hul (by omega))
  have HC := Lib.hid hc
  have HP := Lib.hid hp
  have HS := Lib.hid hs
  have HV := Lib.hid hsv
  have HM := Lib.hid hm
  have CELL := Lib.hid (fun w' (f : Frame [] w w') => (hrow.frame f (by simp)).cell k1)
  have OBJ := Lib.hid hp.obj
  have ROWX := Lib.hid hrow
  have HN := Lib.hid hn
  have hd := hp.disj
  have DJ := Lib.hid hd
  have LEN := Lib.hid (show r.nd.pn = r.ps.length from hpn)
  have hrk := rankS_le (r.ps.map (·.name)) s
  rw [List.length_map] at hrk
  generalize rankS (r.ps.map (·.name)) s = k at *
  rw [HM.out] at BS
  clear hc hg hu hs hsv hm hp hrow hlen hcell k1 hln hpn hsl hsp hdj hul hd
  rw [LEN.out] at CELL
  generalize (A ++ r :: B).length = n at *
  go_enter Try.func36, Try.ntmps36
  go_wp2_with fail
  refine HC.out.mono ?_
  rintro e w3 ⟨rfl, f3⟩
  have F3 := Lib.hid f3
  clear f3
  go_wp2_with fail
  refine (named_any s _ hl).mono ?_
  rintro e w' ⟨rfl, rfl⟩
  rw [HS.out]
  go_wp2_with fail
  refine (named_any v _ hlv).mono ?_
  rintro e w' ⟨rfl, rfl⟩
  rw [HV.out]
  have hob := OBJ.out.frame F3.out (by simp)
  have c0 := hob.at 0 rfl
  have c1 := CELL.out _ F3.out
  have OB := Lib.hid hob
  clear hob
  go_wp2_with fail
  refine (BS.out _ F3.out).mono ?_
  rintro e w4 ⟨rfl, f4⟩
  have F4 := Lib.hid (F3.out.trans1 f4)
  clear f4 c0 c1
  have hob := OBJ.out.frame F4.out (by simp)
  have c0 := hob.at 0 rfl
  have OB4 := Lib.hid hob
  clear hob
  have SL4 := Lib.hid (SL.out.frame0 F4.out)
  have hpbL : pb ∉ r.P := fun h => (DJ.out.2.2.2.1 r (by simp)).1 (by simp [Rn.bl, h])
  have hbL : b ∉ r.P := fun h => (DJ.out.2.2.2.1 r (by simp)).2.1 (by simp [Rn.bl, h])
  have hpb : pb ≠ b := DJ.out.1
  have hbp : b ≠ pb := fun e => hpb e.symm
  have ROW4 := Lib.hid (ROWX.out.frame F4.out (by simp))
  go_wp2_with fail
  go_region_held3 (fun w' => w'.cell? ⟨pb, 0, none⟩ = some (.slice (some ⟨b, 0, none⟩) n nc)) (go_keep)
    ((go_at_call 56; refine (ins_prop_any (.slice r.nd.pa r.ps.length r.nd.pc) r.ps ⟨s, v⟩ r.P _ k _ (SL4.out.frame0 (by (repeat first | assumption | exact Frame.refl _ _ | refine Frame.trans1 ?_ (Frame.alloc _ _ _) | refine Frame.trans1 ?_ (Frame.drew _ _) | refine Frame.trans1 ?_ (Frame.drewN _ _ _)))) ((Blk.new _ _ _).drew) (fun hm => absurd (SL4.out.lt _ hm) (Nat.lt_irrefl _)) (by omega) hrk).mono ?_; rintro e w5 ⟨b', cap', rfl, sl5, f5, hb5⟩; have f45 : Frame r.P w4 w5 := (show Frame r.P w4 _ from by (repeat first | assumption | exact Frame.refl _ _ | refine Frame.trans1 ?_ (Frame.alloc _ _ _) | refine Frame.trans1 ?_ (Frame.drew _ _) | refine Frame.trans1 ?_ (Frame.drewN _ _ _))).trans1 f5; have c0 := (OB4.out.frame f45 hpbL).at 0 rfl; have z1 := (ROW4.out.frame f45 hbL).frozen (A.length * 3 + 2); have q1 := (ROW4.out.frame f45 hbL).cell (i := A.length * 3 + 2) (v := .slice r.nd.pa r.ps.length r.nd.pc) (by rw [← LEN.out]; exact flat_get nd_len (show ((A ++ r :: B).map (·.nd))[A.length]? = some r.nd by simp) (j := 2) rfl)))
  go_wp2_with fail
  go_ret
  have P := HP.out
  have hP := HP.out.ok r (by simp)
  have hkl : (r.ps.take k ++ (⟨s, v⟩ : Pr) :: r.ps.drop k).length = r.ps.length + 1 := by simp; omega
  have f5' : Frame r.P w w5 := (F4.out.mono (by simp)).trans1 f45
  have fs : Frame [b] w5 (w5.setCell ⟨b, A.length * 3 + 2, none⟩ (.slice (some ⟨b', 0, none⟩) (r.ps.length + 1) cap')) := Frame.setCell _ _ _ (by simp)
  have fr' : Frame (b :: r.P) w (w5.setCell ⟨b, A.length * 3 + 2, none⟩ (.slice (some ⟨b', 0, none⟩) (r.ps.length + 1) cap')) := (f5'.mono (fun x hx => .inl (by simp [hx]))).trans1 (fs.mono (fun x hx => .inl (by simp at hx; simp [hx])))
  have fr := fr'.mono (S' := b :: r.bl) (fun x hx => .inl (by simp at hx; rcases hx with hx | hx <;> simp [Rn.bl, hx]))
  have hb'w : b' ∈ r.P ∨ w.heap.size ≤ b' := by
    rcases hb5 with h | h
    · exact .inl h
    · right; have := F4.out.size; simp at h; omega
  have hbw := P.row.lt
  have hb'b : b' ≠ b := by
    rcases hb'w with h | h
    · exact fun e => hbL (e ▸ h)
    · omega
  have hb'P : b' ∉ r.L := by
    rcases hb'w with h | h
    · exact fun hm => hP.1.2.2.2.2 b' hm h
    · intro hm; have := hP.1.2.2.1.lt b' hm; omega
  have g1 : RowAt (w5.setCell ⟨b, A.length * 3 + 2, none⟩ (.slice (some ⟨b', 0, none⟩) (r.ps.length + 1) cap')) b 41 3 (A ++ r :: B).length nc (((A ++ (⟨⟨r.nd.id, r.nd.la, r.nd.ln, r.nd.lc, some ⟨b', 0, none⟩, r.ps.length + 1, cap'⟩, r.ls, r.ps.take k ++ ⟨s, v⟩ :: r.ps.drop k, r.L, [b']⟩ : Rn) :: B).map (·.nd)).flatMap Nd.cs) := by
    have hr5 := P.row.frame f5' hbL
    rw [List.map_append, List.map_cons] at hr5 ⊢
    have := RowAt.put (y := ⟨r.nd.id, r.nd.la, r.nd.ln, r.nd.lc, some ⟨b', 0, none⟩, r.ps.length + 1, cap'⟩) (j := 2) (u := .slice (some ⟨b', 0, none⟩) (r.ps.length + 1) cap') hr5 nd_len (by omega) rfl
    rw [List.length_map] at this
    exact this
  have g2 := sl5.frame fs (by simpa using hb'b)
  rw [← hkl] at g2
  have g3 := hP.1.2.2.1.frame fr' (fun x hx hm => by
    simp at hm
    rcases hm with hm | hm
    · exact (DJ.out.2.2.2.1 r (by simp)).2.1 (by simp [Rn.bl]; exact .inl (hm ▸ hx))
    · exact hP.1.2.2.2.2 x hx hm)
  have g4 : ∀ x ∈ r.L ++ [b'], x ∈ r.bl ∨ w.heap.size ≤ x := by
    intro x hx
    simp at hx
    rcases hx with hx | rfl
    · exact .inl (by simp [Rn.bl, hx])
    · rcases hb'w with h | h
      · exact .inl (by simp [Rn.bl, h])
      · exact .inr h
  have g5 : (r.L ++ [b']).Nodup := by
    have := List.nodup_append.1 (DJ.out.2.2.2.2.2.2.2 : (r.L ++ r.P).Nodup)
    exact List.nodup_append.2 ⟨this.1, by simp, fun x hx y hy e => by simp at hy; subst hy; subst e; exact hb'P hx⟩
  rw [hkl] at g2
  obtain ⟨F', a1, a2, a3⟩ := Parts.put P fr g1 ⟨⟨hP.1.1, hkl.symm, g3, by rw [hkl]; exact g2, fun x hx hm => by simp at hm; subst hm; exact hb'P hx⟩, hP.2.1, by rw [hkl]; omega⟩ g4 g5
  exact ⟨rfl, _, F', by simp [Rn.tell], a1, a2, a3⟩

set_option maxHeartbeats 1000000 in
set_option maxRecDepth 100000 in
theorem gset_has (hg : GG w pb F (A ++ r :: B) es given) (hu : Up (((A ++ r :: B).map (·.nd)).map (·.id))) (hn : (A ++ r :: B).length ≤ 1000000) (s v : ByteArray) (hl : s.size ≤ 9223372036854775807) (hs : namedB s = true) (hlv : v.size ≤ 9223372036854775807) (hsv : namedB v = true) (hul : UpS (r.ps.map (·.name))) (hm : memS s (r.ps.map (·.name)) = true) :
    Calls Try.prog 36 #[.pointer (some ⟨pb, 0, none⟩), .int .i64 r.nd.id, .string s, .string v] w fun e w' => e = .returned (.int .i64 0) ∧ ∃ r' F', r'.tell = (r.nd.id, r.ls, r.ps.take (rankS (r.ps.map (·.name)) s) ++ ⟨s, v⟩ :: r.ps.drop (rankS (r.ps.map (·.name)) s + 1)) ∧ GG w' pb F' (A ++ r' :: B) es given ∧ Frame F w w' ∧ ∀ x ∈ F', x ∈ F ∨ w.heap.size ≤ x := by
  have hc := gg_find hg hu hn r.nd.id w (Frame.refl _ _)
  rw [(rank_split hu).1, decide_eq_true (rank_split hu).2] at hc
  obtain ⟨b, nc, ae, ec, H, hp, rfl⟩ := hg.parts
  have hok := hp.ok r (by simp)
  have hrow := hp.row
  have hlen : ((A ++ r :: B).map (·.nd)).length = (A ++ r :: B).length := List.length_map _
  have hAn : A.length < (A ++ r :: B).length := by simp
  have hcell : ∀ j u, r.nd.cs[j]? = some u → (((A ++ r :: B).map (·.nd)).flatMap Nd.cs)[A.length * 3 + j]? = some u := fun j u hj => flat_get nd_len (by simp) hj
  have k1 := hcell 2 _ rfl
  obtain ⟨⟨hln, hpn, hsl, hsp, hdj⟩, hl1, hl2⟩ := hok
  have SL := Lib.hid hsp
  have BS := Lib.hid (fun w' (f : Frame [] w w') => bsf_prop r.nd.pa r.nd.pc r.ps r.P s w' (hsp.frame0 f) hul (by omega))
  have HC := Lib.hid hc
  have HP := Lib.hid hp
  have HS := Lib.hid hs
  have HV := Lib.hid hsv
  have HM := Lib.hid hm
  have CELL := Lib.hid (fun w' (f : Frame [] w w') => (hrow.frame f (by simp)).cell k1)
  have OBJ := Lib.hid hp.obj
  have ROWX := Lib.hid hrow
  have HN := Lib.hid hn
  have hd := hp.disj
  have DJ := Lib.hid hd
  have LEN := Lib.hid (show r.nd.pn = r.ps.length from hpn)
  have hrk := rankS_le (r.ps.map (·.name)) s
  rw [List.length_map] at hrk
  have hkm := rankS_mem (t := s) (rankS_le (r.ps.map (·.name)) s) (rankS_lt hul).1 hul (rankS_lt hul).2
  rw [hm] at hkm
  have hks : (r.ps.map (·.name))[rankS (r.ps.map (·.name)) s]? = some s := by simpa using hkm.symm
  clear hkm
  have hkl : rankS (r.ps.map (·.name)) s < r.ps.length := by simpa using (List.getElem?_eq_some_iff.1 hks).1
  generalize rankS (r.ps.map (·.name)) s = k at *
  obtain ⟨q, hpa, hPq⟩ : ∃ q, r.nd.pa = some ⟨q, 0, none⟩ ∧ r.P = [q] := by
    rcases hsp with ⟨_, e, _⟩ | ⟨q, c, e, e2, _⟩
    · rw [e] at hkl; simp at hkl
    · injection e with e _ _; exact ⟨q, e, e2⟩
  have hpe : r.ps = r.ps.take k ++ r.ps[k] :: r.ps.drop (k + 1) := by rw [List.getElem_cons_drop, List.take_append_drop]
  have hnm : r.ps[k].name = s := by
    rw [List.getElem?_map, List.getElem?_eq_getElem hkl] at hks
    simpa using hks
  have KS := Lib.hid (And.intro hpa (And.intro hPq (And.intro hpe hnm)))
  have hrq : RowAt w q 46 2 r.ps.length r.nd.pc (r.ps.flatMap Pr.cs) := by
    rcases hsp with ⟨_, e, _⟩ | ⟨q', c, e, e2, hr⟩
    · rw [e] at hkl; simp at hkl
    · injection e with e _ e3; rw [hpa] at e; injection e with e; injection e with e; subst e e3; exact hr
  have RQ := Lib.hid hrq
  clear hks hrq hpe hnm hPq
  rw [HM.out] at BS
  clear hc hg hu hs hsv hm hp hrow hlen hcell k1 hln hpn hsl hsp hdj hul hd
  rw [hpa] at CELL BS
  clear hpa
  rw [LEN.out] at CELL
  generalize (A ++ r :: B).length = n at *
  go_enter Try.func36, Try.ntmps36
  go_wp2_with fail
  refine HC.out.mono ?_
  rintro e w3 ⟨rfl, f3⟩
  have F3 := Lib.hid f3
  clear f3
  go_wp2_with fail
  refine (named_any s _ hl).mono ?_
  rintro e w' ⟨rfl, rfl⟩
  rw [HS.out]
  go_wp2_with fail
  refine (named_any v _ hlv).mono ?_
  rintro e w' ⟨rfl, rfl⟩
  rw [HV.out]
  have hob := OBJ.out.frame F3.out (by simp)
  have c0 := hob.at 0 rfl
  have c1 := CELL.out _ F3.out
  have OB := Lib.hid hob
  clear hob
  go_wp2_with fail
  refine (BS.out _ F3.out).mono ?_
  rintro e w4 ⟨rfl, f4⟩
  have F4 := Lib.hid (F3.out.trans1 f4)
  clear f4 c0 c1
  have hrow4 := RQ.out.frame F4.out (by simp)
  have q1 := hrow4.cell (i := k * 2 + 1) (v := .string (r.ps[k]'hkl).val) (flat_get pr_len (show r.ps[k]? = some r.ps[k] by simp [hkl]) (j := 1) rfl)
  have z1 := hrow4.frozen (k * 2 + 1)
  have R4 := Lib.hid hrow4
  clear hrow4
  go_wp2_with fail
  go_ret
  have P := HP.out
  have hP := HP.out.ok r (by simp)
  obtain ⟨hpa, hPq, hpe, hnm⟩ := KS.out
  have fs : Frame [q] w4 (w4.setCell ⟨q, k * 2 + 1, none⟩ (.string v)) := Frame.setCell _ _ _ (by simp)
  have fq : Frame [q] w (w4.setCell ⟨q, k * 2 + 1, none⟩ (.string v)) := (F4.out.mono (by simp)).trans1 fs
  have hqr : q ∈ r.bl := by simp [Rn.bl, hPq]
  have fr : Frame (b :: r.bl) w (w4.setCell ⟨q, k * 2 + 1, none⟩ (.string v)) := fq.mono (fun x hx => .inl (by simp at hx; subst hx; simp [hqr]))
  have hps : (r.ps.take k ++ (⟨s, v⟩ : Pr) :: r.ps.drop (k + 1)).length = r.ps.length := by simp; omega
  have g1 : RowAt (w4.setCell ⟨q, k * 2 + 1, none⟩ (.string v)) b 41 3 (A ++ r :: B).length nc (((A ++ (⟨r.nd, r.ls, r.ps.take k ++ ⟨s, v⟩ :: r.ps.drop (k + 1), r.L, r.P⟩ : Rn) :: B).map (·.nd)).flatMap Nd.cs) := by
    have := P.row.frame fq (fun hm => by simp at hm; subst hm; exact (DJ.out.2.2.2.1 r (by simp)).2.1 hqr)
    simpa using this
  have g2 : RowAt (w4.setCell ⟨q, k * 2 + 1, none⟩ (.string v)) q 46 2 r.ps.length r.nd.pc ((r.ps.take k ++ (⟨s, v⟩ : Pr) :: r.ps.drop (k + 1)).flatMap Pr.cs) := by
    have h4 := R4.out
    rw [show r.ps.flatMap Pr.cs = (r.ps.take k ++ r.ps[k] :: r.ps.drop (k + 1)).flatMap Pr.cs from congrArg (List.flatMap Pr.cs) hpe] at h4
    have := RowAt.put (y := (⟨s, v⟩ : Pr)) (j := 1) (u := .string v) h4 pr_len (by omega) (by simp [Pr.cs, hnm])
    rw [List.length_take, Nat.min_eq_left (by omega)] at this
    exact this
  have g3 := hP.1.2.2.1.frame fq (fun x hx hm => by simp at hm; subst hm; exact hP.1.2.2.2.2 x hx (by simp [hPq]))
  obtain ⟨F', a1, a2, a3⟩ := Parts.put (r' := ⟨r.nd, r.ls, r.ps.take k ++ ⟨s, v⟩ :: r.ps.drop (k + 1), r.L, r.P⟩) P fr g1 ⟨⟨hP.1.1, by rw [hps]; exact hP.1.2.1, g3, .inr ⟨q, r.nd.pc, by rw [hpa, hps], hPq, by rw [hps]; exact g2⟩, hP.1.2.2.2.2⟩, hP.2.1, by rw [hps]; exact hP.2.2⟩ (fun x hx => .inl hx) DJ.out.2.2.2.2.2.2.2
  exact ⟨rfl, _, F', by simp [Rn.tell], a1, a2, a3⟩
end
end Go.Proofs.Ytjcajidgaejhoaa

