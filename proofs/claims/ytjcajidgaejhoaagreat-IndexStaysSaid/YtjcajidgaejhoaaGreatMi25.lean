/- A graph's calls: Set. A graph's calls by values: Label, Set; what holds of a graph. -/
import Derived.Test.YtjcajidgaejhoaaGreatMi24
namespace Go.Proofs.YtjcajidgaejhoaaGreat
open Go.RowKit
set_option linter.unusedSimpArgs false
set_option linter.unusedVariables false
section
variable {w : World} {pb b nc : Nat} {ae : Option Addr} {ec : Nat} {H : List Nat} {A B : List Rn} {r : Rn} {es : List Ed} {given : Int} {F : List Nat}
theorem gset_name {rs : List Rn} (h : GG w pb F rs es given) (hu : Up ((rs.map (·.nd)).map (·.id))) (hn : rs.length ≤ 1000000) (t : Int) (s v : ByteArray) (hl : s.size ≤ 9223372036854775807) (hs : namedB s = false) :
    Calls Tryz.prog 61 #[.pointer (some ⟨pb, 0, none⟩), .int .i64 t, .string s, .string v] w fun e w' => e = .returned (.int .i64 2) ∧ Frame [] w w' := by
  have hc := gg_find h hu hn t w (Frame.refl _ _)
  generalize rank ((rs.map (·.nd)).map (·.id)) t = k at *
  generalize decide (t ∈ (rs.map (·.nd)).map (·.id)) = d at *
  have HC := Lib.hid hc
  have HS := Lib.hid hs
  clear hc h hu hs
  go_enter Tryz.func61, Tryz.ntmps61
  go_wp2_with fail
  refine HC.out.mono ?_
  rintro e w3 ⟨rfl, f3⟩
  have F3 := Lib.hid f3
  clear f3
  go_wp2_with fail
  refine (named_any s _ hl).mono ?_
  rintro e w' ⟨rfl, rfl⟩
  rw [HS.out]
  go_wp2_with fail
  go_ret
  exact ⟨rfl, F3.out⟩
theorem gset_value {rs : List Rn} (h : GG w pb F rs es given) (hu : Up ((rs.map (·.nd)).map (·.id))) (hn : rs.length ≤ 1000000) (t : Int) (s v : ByteArray) (hl : s.size ≤ 9223372036854775807) (hs : namedB s = true) (hlv : v.size ≤ 9223372036854775807) (hsv : namedB v = false) :
    Calls Tryz.prog 61 #[.pointer (some ⟨pb, 0, none⟩), .int .i64 t, .string s, .string v] w fun e w' => e = .returned (.int .i64 2) ∧ Frame [] w w' := by
  have hc := gg_find h hu hn t w (Frame.refl _ _)
  generalize rank ((rs.map (·.nd)).map (·.id)) t = k at *
  generalize decide (t ∈ (rs.map (·.nd)).map (·.id)) = d at *
  have HC := Lib.hid hc
  have HS := Lib.hid hs
  have HV := Lib.hid hsv
  clear hc h hu hs hsv
  go_enter Tryz.func61, Tryz.ntmps61
  go_wp2_with fail
  refine HC.out.mono ?_
  rintro e w3 ⟨rfl, f3⟩
  have F3 := Lib.hid f3
  clear f3
  go_wp2_with fail
  refine (named_any s _ hl).mono ?_
  rintro e w' ⟨rfl, rfl⟩
  rw [HS.out]
  go_wp2_with fail
  refine (named_any v _ hlv).mono ?_
  rintro e w' ⟨rfl, rfl⟩
  rw [HV.out]
  go_wp2_with fail
  go_ret
  exact ⟨rfl, F3.out⟩
theorem gset_none {rs : List Rn} (h : GG w pb F rs es given) (hu : Up ((rs.map (·.nd)).map (·.id))) (hn : rs.length ≤ 1000000) (t : Int) (s v : ByteArray) (hl : s.size ≤ 9223372036854775807) (hs : namedB s = true) (hlv : v.size ≤ 9223372036854775807) (hsv : namedB v = true) (hm : t ∉ (rs.map (·.nd)).map (·.id)) :
    Calls Tryz.prog 61 #[.pointer (some ⟨pb, 0, none⟩), .int .i64 t, .string s, .string v] w fun e w' => e = .returned (.int .i64 7) ∧ Frame [] w w' := by
  have hc := gg_find h hu hn t w (Frame.refl _ _)
  rw [decide_eq_false hm] at hc
  generalize rank ((rs.map (·.nd)).map (·.id)) t = k at *
  have HC := Lib.hid hc
  have HS := Lib.hid hs
  have HV := Lib.hid hsv
  clear hc h hu hs hm hsv
  go_enter Tryz.func61, Tryz.ntmps61
  go_wp2_with fail
  refine HC.out.mono ?_
  rintro e w3 ⟨rfl, f3⟩
  have F3 := Lib.hid f3
  clear f3
  go_wp2_with fail
  refine (named_any s _ hl).mono ?_
  rintro e w' ⟨rfl, rfl⟩
  rw [HS.out]
  go_wp2_with fail
  refine (named_any v _ hlv).mono ?_
  rintro e w' ⟨rfl, rfl⟩
  rw [HV.out]
  go_wp2_with fail
  go_ret
  exact ⟨rfl, F3.out⟩

set_option maxHeartbeats 1000000 in
set_option maxRecDepth 100000 in
theorem gset_full (hg : GG w pb F (A ++ r :: B) es given) (hu : Up (((A ++ r :: B).map (·.nd)).map (·.id))) (hn : (A ++ r :: B).length ≤ 1000000) (s v : ByteArray) (hl : s.size ≤ 9223372036854775807) (hs : namedB s = true) (hlv : v.size ≤ 9223372036854775807) (hsv : namedB v = true) (hul : UpS (r.ps.map (·.name))) (hm : memS s (r.ps.map (·.name)) = false) (h8 : 8 ≤ r.ps.length) :
    Calls Tryz.prog 61 #[.pointer (some ⟨pb, 0, none⟩), .int .i64 r.nd.id, .string s, .string v] w fun e w' => e = .returned (.int .i64 5) ∧ Frame [] w w' := by
  have hc := gg_find hg hu hn r.nd.id w (Frame.refl _ _)
  rw [(rank_split hu).1, decide_eq_true (rank_split hu).2] at hc
  obtain ⟨b, nc, ae, ec, H, hp, rfl⟩ := hg.parts
  have hok := hp.ok r (by simp)
  have hrow := hp.row
  have hlen : ((A ++ r :: B).map (·.nd)).length = (A ++ r :: B).length := List.length_map _
  have hAn : A.length < (A ++ r :: B).length := by simp
  have hcell : ∀ j u, r.nd.cs[j]? = some u → (((A ++ r :: B).map (·.nd)).flatMap Nd.cs)[A.length * 3 + j]? = some u := fun j u hj => flat_get nd_len (by simp) hj
  have k1 := hcell 2 _ rfl
  obtain ⟨⟨hln, hpn, hsl, hsp, hdj⟩, hl1, hl2⟩ := hok
  have SL := Lib.hid hsp
  have BS := Lib.hid (fun w' (f : Frame [] w w') => bsf_prop r.nd.pa r.nd.pc r.ps r.P s w' (hsp.frame0 f) hul (by omega))
  have HC := Lib.hid hc
  have HP := Lib.hid hp
  have HS := Lib.hid hs
  have HV := Lib.hid hsv
  have HM := Lib.hid hm
  have CELL := Lib.hid (fun w' (f : Frame [] w w') => (hrow.frame f (by simp)).cell k1)
  have OBJ := Lib.hid hp.obj
  have ROWX := Lib.hid hrow
  have HN := Lib.hid hn
  have hd := hp.disj
  have DJ := Lib.hid hd
  have LEN := Lib.hid (show r.nd.pn = r.ps.length from hpn)
  have hrk := rankS_le (r.ps.map (·.name)) s
  rw [List.length_map] at hrk
  generalize rankS (r.ps.map (·.name)) s = k at *
  rw [HM.out] at BS
  clear hc hg hu hs hsv hm hp hrow hlen hcell k1 hln hpn hsl hsp hdj hul hd
  rw [LEN.out] at CELL
  generalize (A ++ r :: B).length = n at *
  go_enter Tryz.func61, Tryz.ntmps61
  go_wp2_with fail
  refine HC.out.mono ?_
  rintro e w3 ⟨rfl, f3⟩
  have F3 := Lib.hid f3
  clear f3
  go_wp2_with fail
  refine (named_any s _ hl).mono ?_
  rintro e w' ⟨rfl, rfl⟩
  rw [HS.out]
  go_wp2_with fail
  refine (named_any v _ hlv).mono ?_
  rintro e w' ⟨rfl, rfl⟩
  rw [HV.out]
  have hob := OBJ.out.frame F3.out (by simp)
  have c0 := hob.at 0 rfl
  have c1 := CELL.out _ F3.out
  have OB := Lib.hid hob
  clear hob
  go_wp2_with fail
  refine (BS.out _ F3.out).mono ?_
  rintro e w4 ⟨rfl, f4⟩
  have F4 := Lib.hid (F3.out.trans1 f4)
  clear f4 c0 c1
  go_wp2_with fail
  go_ret
  exact ⟨rfl, F4.out⟩

set_option maxHeartbeats 1000000 in
set_option maxRecDepth 100000 in
theorem gset_ins (hg : GG w pb F (A ++ r :: B) es given) (hu : Up (((A ++ r :: B).map (·.nd)).map (·.id))) (hn : (A ++ r :: B).length ≤ 1000000) (s v : ByteArray) (hl : s.size ≤ 9223372036854775807) (hs : namedB s = true) (hlv : v.size ≤ 9223372036854775807) (hsv : namedB v = true) (hul : UpS (r.ps.map (·.name))) (hm : memS s (r.ps.map (·.name)) = false) (h8 : r.ps.length < 8) :
    Calls Tryz.prog 61 #[.pointer (some ⟨pb, 0, none⟩), .int .i64 r.nd.id, .string s, .string v] w fun e w' => e = .returned (.int .i64 0) ∧ ∃ r' F', r'.tell = (r.nd.id, r.ls, r.ps.take (rankS (r.ps.map (·.name)) s) ++ ⟨s, v⟩ :: r.ps.drop (rankS (r.ps.map (·.name)) s)) ∧ GG w' pb F' (A ++ r' :: B) es given ∧ Frame F w w' ∧ ∀ x ∈ F', x ∈ F ∨ w.heap.size ≤ x := by
  have hc := gg_find hg hu hn r.nd.id w (Frame.refl _ _)
  rw [(rank_split hu).1, decide_eq_true (rank_split hu).2] at hc
  obtain ⟨b, nc, ae, ec, H, hp, rfl⟩ := hg.parts
  have hok := hp.ok r (by simp)
  have hrow := hp.row
  have hlen : ((A ++ r :: B).map (·.nd)).length = (A ++ r :: B).length := List.length_map _
  have hAn : A.length < (A ++ r :: B).length := by simp
  have hcell : ∀ j u, r.nd.cs[j]? = some u → (((A ++ r :: B).map (·.nd)).flatMap Nd.cs)[A.length * 3 + j]? = some u := fun j u hj => flat_get nd_len (by simp) hj
  have k1 := hcell 2 _ rfl
  obtain ⟨⟨hln, hpn, hsl, hsp, hdj⟩, hl1, hl2⟩ := hok
  have SL := Lib.hid hsp
  have BS := Lib.hid (fun w' (f : Frame [] w w') => bsf_prop r.nd.pa r.nd.pc r.ps r.P s w' (hsp.frame0 f) hul (by omega))
  have HC := Lib.hid hc
  have HP := Lib.hid hp
  have HS := Lib.hid hs
  have HV := Lib.hid hsv
  have HM := Lib.hid hm
  have CELL := Lib.hid (fun w' (f : Frame [] w w') => (hrow.frame f (by simp)).cell k1)
  have OBJ := Lib.hid hp.obj
  have ROWX := Lib.hid hrow
  have HN := Lib.hid hn
  have hd := hp.disj
  have DJ := Lib.hid hd
  have LEN := Lib.hid (show r.nd.pn = r.ps.length from hpn)
  have hrk := rankS_le (r.ps.map (·.name)) s
  rw [List.length_map] at hrk
  generalize rankS (r.ps.map (·.name)) s = k at *
  rw [HM.out] at BS
  clear hc hg hu hs hsv hm hp hrow hlen hcell k1 hln hpn hsl hsp hdj hul hd
  rw [LEN.out] at CELL
  generalize (A ++ r :: B).length = n at *
  go_enter Tryz.func61, Tryz.ntmps61
  go_wp2_with fail
  refine HC.out.mono ?_
  rintro e w3 ⟨rfl, f3⟩
  have F3 := Lib.hid f3
  clear f3
  go_wp2_with fail
  refine (named_any s _ hl).mono ?_
  rintro e w' ⟨rfl, rfl⟩
  rw [HS.out]
  go_wp2_with fail
  refine (named_any v _ hlv).mono ?_
  rintro e w' ⟨rfl, rfl⟩
  rw [HV.out]
  have hob := OBJ.out.frame F3.out (by simp)
  have c0 := hob.at 0 rfl
  have c1 := CELL.out _ F3.out
  have OB := Lib.hid hob
  clear hob
  go_wp2_with fail
  refine (BS.out _ F3.out).mono ?_
  rintro e w4 ⟨rfl, f4⟩
  have F4 := Lib.hid (F3.out.trans1 f4)
  clear f4 c0 c1
  have hob := OBJ.out.frame F4.out (by simp)
  have c0 := hob.at 0 rfl
  have OB4 := Lib.hid hob
  clear hob
  have SL4 := Lib.hid (SL.out.frame0 F4.out)
  have hpbL : pb ∉ r.P := fun h => (DJ.out.2.2.2.1 r (by simp)).1 (by simp [Rn.bl, h])
  have hbL : b ∉ r.P := fun h => (DJ.out.2.2.2.1 r (by simp)).2.1 (by simp [Rn.bl, h])
  have hpb : pb ≠ b := DJ.out.1
  have hbp : b ≠ pb := fun e => hpb e.symm
  have ROW4 := Lib.hid (ROWX.out.frame F4.out (by simp))
  go_wp2_with fail
  go_region_held3 (fun w' => w'.cell? ⟨pb, 0, none⟩ = some (.slice (some ⟨b, 0, none⟩) n nc)) (go_keep)
    ((go_at_call 86; refine (ins_prop_any (.slice r.nd.pa r.ps.length r.nd.pc) r.ps ⟨s, v⟩ r.P _ k _ (SL4.out.frame0 (by (repeat first | assumption | exact Frame.refl _ _ | refine Frame.trans1 ?_ (Frame.alloc _ _ _) | refine Frame.trans1 ?_ (Frame.drew _ _) | refine Frame.trans1 ?_ (Frame.drewN _ _ _)))) ((Blk.new _ _ _).drew) (fun hm => absurd (SL4.out.lt _ hm) (Nat.lt_irrefl _)) (by omega) hrk).mono ?_; rintro e w5 ⟨b', cap', rfl, sl5, f5, hb5⟩; have f45 : Frame r.P w4 w5 := (show Frame r.P w4 _ from by (repeat first | assumption | exact Frame.refl _ _ | refine Frame.trans1 ?_ (Frame.alloc _ _ _) | refine Frame.trans1 ?_ (Frame.drew _ _) | refine Frame.trans1 ?_ (Frame.drewN _ _ _))).trans1 f5; have c0 := (OB4.out.frame f45 hpbL).at 0 rfl; have z1 := (ROW4.out.frame f45 hbL).frozen (A.length * 3 + 2); have q1 := (ROW4.out.frame f45 hbL).cell (i := A.length * 3 + 2) (v := .slice r.nd.pa r.ps.length r.nd.pc) (by rw [← LEN.out]; exact flat_get nd_len (show ((A ++ r :: B).map (·.nd))[A.length]? = some r.nd by simp) (j := 2) rfl)))
  go_wp2_with fail
  go_ret
  have P := HP.out
  have hP := HP.out.ok r (by simp)
  have hkl : (r.ps.take k ++ (⟨s, v⟩ : Pr) :: r.ps.drop k).length = r.ps.length + 1 := by simp; omega
  have f5' : Frame r.P w w5 := (F4.out.mono (by simp)).trans1 f45
  have fs : Frame [b] w5 (w5.setCell ⟨b, A.length * 3 + 2, none⟩ (.slice (some ⟨b', 0, none⟩) (r.ps.length + 1) cap')) := Frame.setCell _ _ _ (by simp)
  have fr' : Frame (b :: r.P) w (w5.setCell ⟨b, A.length * 3 + 2, none⟩ (.slice (some ⟨b', 0, none⟩) (r.ps.length + 1) cap')) := (f5'.mono (fun x hx => .inl (by simp [hx]))).trans1 (fs.mono (fun x hx => .inl (by simp at hx; simp [hx])))
  have fr := fr'.mono (S' := b :: r.bl) (fun x hx => .inl (by simp at hx; rcases hx with hx | hx <;> simp [Rn.bl, hx]))
  have hb'w : b' ∈ r.P ∨ w.heap.size ≤ b' := by
    rcases hb5 with h | h
    · exact .inl h
    · right; have := F4.out.size; simp at h; omega
  have hbw := P.row.lt
  have hb'b : b' ≠ b := by
    rcases hb'w with h | h
    · exact fun e => hbL (e ▸ h)
    · omega
  have hb'P : b' ∉ r.L := by
    rcases hb'w with h | h
    · exact fun hm => hP.1.2.2.2.2 b' hm h
    · intro hm; have := hP.1.2.2.1.lt b' hm; omega
  have g1 : RowAt (w5.setCell ⟨b, A.length * 3 + 2, none⟩ (.slice (some ⟨b', 0, none⟩) (r.ps.length + 1) cap')) b 41 3 (A ++ r :: B).length nc (((A ++ (⟨⟨r.nd.id, r.nd.la, r.nd.ln, r.nd.lc, some ⟨b', 0, none⟩, r.ps.length + 1, cap'⟩, r.ls, r.ps.take k ++ ⟨s, v⟩ :: r.ps.drop k, r.L, [b']⟩ : Rn) :: B).map (·.nd)).flatMap Nd.cs) := by
    have hr5 := P.row.frame f5' hbL
    rw [List.map_append, List.map_cons] at hr5 ⊢
    have := RowAt.put (y := ⟨r.nd.id, r.nd.la, r.nd.ln, r.nd.lc, some ⟨b', 0, none⟩, r.ps.length + 1, cap'⟩) (j := 2) (u := .slice (some ⟨b', 0, none⟩) (r.ps.length + 1) cap') hr5 nd_len (by omega) rfl
    rw [List.length_map] at this
    exact this
  have g2 := sl5.frame fs (by simpa using hb'b)
  rw [← hkl] at g2
  have g3 := hP.1.2.2.1.frame fr' (fun x hx hm => by
    simp at hm
    rcases hm with hm | hm
    · exact (DJ.out.2.2.2.1 r (by simp)).2.1 (by simp [Rn.bl]; exact .inl (hm ▸ hx))
    · exact hP.1.2.2.2.2 x hx hm)
  have g4 : ∀ x ∈ r.L ++ [b'], x ∈ r.bl ∨ w.heap.size ≤ x := by
    intro x hx
    simp at hx
    rcases hx with hx | rfl
    · exact .inl (by simp [Rn.bl, hx])
    · rcases hb'w with h | h
      · exact .inl (by simp [Rn.bl, h])
      · exact .inr h
  have g5 : (r.L ++ [b']).Nodup := by
    have := List.nodup_append.1 (DJ.out.2.2.2.2.2.2.2 : (r.L ++ r.P).Nodup)
    exact List.nodup_append.2 ⟨this.1, by simp, fun x hx y hy e => by simp at hy; subst hy; subst e; exact hb'P hx⟩
  rw [hkl] at g2
  obtain ⟨F', a1, a2, a3⟩ := Parts.put P fr g1 ⟨⟨hP.1.1, hkl.symm, g3, by rw [hkl]; exact g2, fun x hx hm => by simp at hm; subst hm; exact hb'P hx⟩, hP.2.1, by rw [hkl]; omega⟩ g4 g5
  exact ⟨rfl, _, F', by simp [Rn.tell], a1, a2, a3⟩

set_option maxHeartbeats 1000000 in
set_option maxRecDepth 100000 in
theorem gset_has (hg : GG w pb F (A ++ r :: B) es given) (hu : Up (((A ++ r :: B).map (·.nd)).map (·.id))) (hn : (A ++ r :: B).length ≤ 1000000) (s v : ByteArray) (hl : s.size ≤ 9223372036854775807) (hs : namedB s = true) (hlv : v.size ≤ 9223372036854775807) (hsv : namedB v = true) (hul : UpS (r.ps.map (·.name))) (hm : memS s (r.ps.map (·.name)) = true) :
    Calls Tryz.prog 61 #[.pointer (some ⟨pb, 0, none⟩), .int .i64 r.nd.id, .string s, .string v] w fun e w' => e = .returned (.int .i64 0) ∧ ∃ r' F', r'.tell = (r.nd.id, r.ls, r.ps.take (rankS (r.ps.map (·.name)) s) ++ ⟨s, v⟩ :: r.ps.drop (rankS (r.ps.map (·.name)) s + 1)) ∧ GG w' pb F' (A ++ r' :: B) es given ∧ Frame F w w' ∧ ∀ x ∈ F', x ∈ F ∨ w.heap.size ≤ x := by
  have hc := gg_find hg hu hn r.nd.id w (Frame.refl _ _)
  rw [(rank_split hu).1, decide_eq_true (rank_split hu).2] at hc
  obtain ⟨b, nc, ae, ec, H, hp, rfl⟩ := hg.parts
  have hok := hp.ok r (by simp)
  have hrow := hp.row
  have hlen : ((A ++ r :: B).map (·.nd)).length = (A ++ r :: B).length := List.length_map _
  have hAn : A.length < (A ++ r :: B).length := by simp
  have hcell : ∀ j u, r.nd.cs[j]? = some u → (((A ++ r :: B).map (·.nd)).flatMap Nd.cs)[A.length * 3 + j]? = some u := fun j u hj => flat_get nd_len (by simp) hj
  have k1 := hcell 2 _ rfl
  obtain ⟨⟨hln, hpn, hsl, hsp, hdj⟩, hl1, hl2⟩ := hok
  have SL := Lib.hid hsp
  have BS := Lib.hid (fun w' (f : Frame [] w w') => bsf_prop r.nd.pa r.nd.pc r.ps r.P s w' (hsp.frame0 f) hul (by omega))
  have HC := Lib.hid hc
  have HP := Lib.hid hp
  have HS := Lib.hid hs
  have HV := Lib.hid hsv
  have HM := Lib.hid hm
  have CELL := Lib.hid (fun w' (f : Frame [] w w') => (hrow.frame f (by simp)).cell k1)
  have OBJ := Lib.hid hp.obj
  have ROWX := Lib.hid hrow
  have HN := Lib.hid hn
  have hd := hp.disj
  have DJ := Lib.hid hd
  have LEN := Lib.hid (show r.nd.pn = r.ps.length from hpn)
  have hrk := rankS_le (r.ps.map (·.name)) s
  rw [List.length_map] at hrk
  have hkm := rankS_mem (t := s) (rankS_le (r.ps.map (·.name)) s) (rankS_lt hul).1 hul (rankS_lt hul).2
  rw [hm] at hkm
  have hks : (r.ps.map (·.name))[rankS (r.ps.map (·.name)) s]? = some s := by simpa using hkm.symm
  clear hkm
  have hkl : rankS (r.ps.map (·.name)) s < r.ps.length := by simpa using (List.getElem?_eq_some_iff.1 hks).1
  generalize rankS (r.ps.map (·.name)) s = k at *
  obtain ⟨q, hpa, hPq⟩ : ∃ q, r.nd.pa = some ⟨q, 0, none⟩ ∧ r.P = [q] := by
    rcases hsp with ⟨_, e, _⟩ | ⟨q, c, e, e2, _⟩
    · rw [e] at hkl; simp at hkl
    · injection e with e _ _; exact ⟨q, e, e2⟩
  have hpe : r.ps = r.ps.take k ++ r.ps[k] :: r.ps.drop (k + 1) := by rw [List.getElem_cons_drop, List.take_append_drop]
  have hnm : r.ps[k].name = s := by
    rw [List.getElem?_map, List.getElem?_eq_getElem hkl] at hks
    simpa using hks
  have KS := Lib.hid (And.intro hpa (And.intro hPq (And.intro hpe hnm)))
  have hrq : RowAt w q 67 2 r.ps.length r.nd.pc (r.ps.flatMap Pr.cs) := by
    rcases hsp with ⟨_, e, _⟩ | ⟨q', c, e, e2, hr⟩
    · rw [e] at hkl; simp at hkl
    · injection e with e _ e3; rw [hpa] at e; injection e with e; injection e with e; subst e e3; exact hr
  have RQ := Lib.hid hrq
  clear hks hrq hpe hnm hPq
  rw [HM.out] at BS
  clear hc hg hu hs hsv hm hp hrow hlen hcell k1 hln hpn hsl hsp hdj hul hd
  rw [hpa] at CELL BS
  clear hpa
  rw [LEN.out] at CELL
  generalize (A ++ r :: B).length = n at *
  go_enter Tryz.func61, Tryz.ntmps61
  go_wp2_with fail
  refine HC.out.mono ?_
  rintro e w3 ⟨rfl, f3⟩
  have F3 := Lib.hid f3
  clear f3
  go_wp2_with fail
  refine (named_any s _ hl).mono ?_
  rintro e w' ⟨rfl, rfl⟩
  rw [HS.out]
  go_wp2_with fail
  refine (named_any v _ hlv).mono ?_
  rintro e w' ⟨rfl, rfl⟩
  rw [HV.out]
  have hob := OBJ.out.frame F3.out (by simp)
  have c0 := hob.at 0 rfl
  have c1 := CELL.out _ F3.out
  have OB := Lib.hid hob
  clear hob
  go_wp2_with fail
  refine (BS.out _ F3.out).mono ?_
  rintro e w4 ⟨rfl, f4⟩
  have F4 := Lib.hid (F3.out.trans1 f4)
  clear f4 c0 c1
  have hrow4 := RQ.out.frame F4.out (by simp)
  have q1 := hrow4.cell (i := k * 2 + 1) (v := .string (r.ps[k]'hkl).val) (flat_get pr_len (show r.ps[k]? = some r.ps[k] by simp [hkl]) (j := 1) rfl)
  have z1 := hrow4.frozen (k * 2 + 1)
  have R4 := Lib.hid hrow4
  clear hrow4
  go_wp2_with fail
  go_ret
  have P := HP.out
  have hP := HP.out.ok r (by simp)
  obtain ⟨hpa, hPq, hpe, hnm⟩ := KS.out
  have fs : Frame [q] w4 (w4.setCell ⟨q, k * 2 + 1, none⟩ (.string v)) := Frame.setCell _ _ _ (by simp)
  have fq : Frame [q] w (w4.setCell ⟨q, k * 2 + 1, none⟩ (.string v)) := (F4.out.mono (by simp)).trans1 fs
  have hqr : q ∈ r.bl := by simp [Rn.bl, hPq]
  have fr : Frame (b :: r.bl) w (w4.setCell ⟨q, k * 2 + 1, none⟩ (.string v)) := fq.mono (fun x hx => .inl (by simp at hx; subst hx; simp [hqr]))
  have hps : (r.ps.take k ++ (⟨s, v⟩ : Pr) :: r.ps.drop (k + 1)).length = r.ps.length := by simp; omega
  have g1 : RowAt (w4.setCell ⟨q, k * 2 + 1, none⟩ (.string v)) b 41 3 (A ++ r :: B).length nc (((A ++ (⟨r.nd, r.ls, r.ps.take k ++ ⟨s, v⟩ :: r.ps.drop (k + 1), r.L, r.P⟩ : Rn) :: B).map (·.nd)).flatMap Nd.cs) := by
    have := P.row.frame fq (fun hm => by simp at hm; subst hm; exact (DJ.out.2.2.2.1 r (by simp)).2.1 hqr)
    simpa using this
  have g2 : RowAt (w4.setCell ⟨q, k * 2 + 1, none⟩ (.string v)) q 67 2 r.ps.length r.nd.pc ((r.ps.take k ++ (⟨s, v⟩ : Pr) :: r.ps.drop (k + 1)).flatMap Pr.cs) := by
    have h4 := R4.out
    rw [show r.ps.flatMap Pr.cs = (r.ps.take k ++ r.ps[k] :: r.ps.drop (k + 1)).flatMap Pr.cs from congrArg (List.flatMap Pr.cs) hpe] at h4
    have := RowAt.put (y := (⟨s, v⟩ : Pr)) (j := 1) (u := .string v) h4 pr_len (by omega) (by simp [Pr.cs, hnm])
    rw [List.length_take, Nat.min_eq_left (by omega)] at this
    exact this
  have g3 := hP.1.2.2.1.frame fq (fun x hx hm => by simp at hm; subst hm; exact hP.1.2.2.2.2 x hx (by simp [hPq]))
  obtain ⟨F', a1, a2, a3⟩ := Parts.put (r' := ⟨r.nd, r.ls, r.ps.take k ++ ⟨s, v⟩ :: r.ps.drop (k + 1), r.L, r.P⟩) P fr g1 ⟨⟨hP.1.1, by rw [hps]; exact hP.1.2.1, g3, .inr ⟨q, r.nd.pc, by rw [hpa, hps], hPq, by rw [hps]; exact g2⟩, hP.1.2.2.2.2⟩, hP.2.1, by rw [hps]; exact hP.2.2⟩ (fun x hx => .inl hx) DJ.out.2.2.2.2.2.2.2
  exact ⟨rfl, _, F', by simp [Rn.tell], a1, a2, a3⟩
end
end Go.Proofs.YtjcajidgaejhoaaGreat

namespace Go.Proofs.YtjcajidgaejhoaaGreat
open Go.RowKit
set_option linter.unusedSimpArgs false
set_option linter.unusedVariables false

theorem up_ins {ks : List Int} {t : Int} (hu : Up ks) (hm : t ∉ ks) : Up (ks.take (rank ks t) ++ t :: ks.drop (rank ks t)) := by
  have hlt : (∀ i (h : i < ks.length), i < rank ks t → ks[i] < t) ∧ (∀ i (h : i < ks.length), rank ks t ≤ i → t ≤ ks[i]) := by
    obtain ⟨r, hr, h1, h2⟩ : ∃ r, r ≤ ks.length ∧ (∀ i (h : i < ks.length), i < r → ks[i] < t) ∧ (∀ i (h : i < ks.length), r ≤ i → t ≤ ks[i]) := by
      clear hm
      induction ks with
      | nil => exact ⟨0, by simp, by simp, by simp⟩
      | cons a l ih =>
        obtain ⟨r, hr, h1, h2⟩ := ih (List.pairwise_cons.1 hu).2
        by_cases ha : a < t
        · refine ⟨r + 1, by simp; omega, fun i h hi => ?_, fun i h hi => ?_⟩
          · cases i with
            | zero => exact ha
            | succ i => exact h1 i (by simpa using h) (by omega)
          · cases i with
            | zero => omega
            | succ i => exact h2 i (by simpa using h) (by omega)
        · refine ⟨0, by simp, fun i h hi => by omega, fun i h _ => ?_⟩
          cases i with
          | zero => exact Int.not_lt.1 ha
          | succ i =>
            have h' : i < l.length := by simpa using h
            have := (List.pairwise_cons.1 hu).1 l[i] (by simp)
            simp only [List.getElem_cons_succ]; omega
    rw [rank_of hr h1 h2]
    exact ⟨h1, h2⟩
  have hl := rank_le ks t
  generalize rank ks t = r at *
  have hu' : Up (ks.take r ++ ks.drop r) := by rw [List.take_append_drop]; exact hu
  obtain ⟨u1, u2, u3⟩ := List.pairwise_append.1 hu'
  refine List.pairwise_append.2 ⟨u1, List.pairwise_cons.2 ⟨fun x hx => ?_, u2⟩, fun x hx y hy => ?_⟩
  · obtain ⟨i, hi, rfl⟩ := List.getElem_of_mem hx
    rw [List.getElem_drop] at *
    have := hlt.2 (r + i) (by simp at hi; omega) (by omega)
    have hne : ks[r + i]'(by simp at hi; omega) ≠ t := fun e => hm (e ▸ List.getElem_mem _)
    omega
  · have hxt : x < t := by
      obtain ⟨i, hi, rfl⟩ := List.getElem_of_mem hx
      rw [List.getElem_take]
      exact hlt.1 i (by simp at hi; omega) (by simp at hi; omega)
    rcases List.mem_cons.1 hy with rfl | hy
    · exact hxt
    · exact u3 x hx y hy
theorem upS_ins {ks : List ByteArray} {t : ByteArray} (hu : UpS ks) (hm : t ∉ ks) : UpS (ks.take (rankS ks t) ++ t :: ks.drop (rankS ks t)) := by
  have hlt := rankS_lt (t := t) hu
  have hl := rankS_le ks t
  generalize rankS ks t = r at *
  have hu' : UpS (ks.take r ++ ks.drop r) := by rw [List.take_append_drop]; exact hu
  obtain ⟨u1, u2, u3⟩ := List.pairwise_append.1 hu'
  refine List.pairwise_append.2 ⟨u1, List.pairwise_cons.2 ⟨fun x hx => ?_, u2⟩, fun x hx y hy => ?_⟩
  · obtain ⟨i, hi, rfl⟩ := List.getElem_of_mem hx
    rw [List.getElem_drop] at *
    have h1 := hlt.2 (r + i) (by simp at hi; omega) (by omega)
    cases h2 : ltS t (ks[r + i]'(by simp at hi; omega)) with
    | true => rfl
    | false => exact absurd (ltS_eq h2 h1 ▸ List.getElem_mem _) hm
  · have hxt : ltS x t = true := by
      obtain ⟨i, hi, rfl⟩ := List.getElem_of_mem hx
      rw [List.getElem_take]
      exact hlt.1 i (by simp at hi; omega) (by simp at hi; omega)
    rcases List.mem_cons.1 hy with rfl | hy
    · exact hxt
    · exact u3 x hx y hy

/-- What holds of a graph's nodes. -/
structure VOk (ns : List Nv) : Prop where
  up : Up (ns.map (·.1))
  len : ns.length ≤ 12
  ls : ∀ n ∈ ns, UpS n.2.1 ∧ n.2.1.length ≤ 8
  ps : ∀ n ∈ ns, UpS (n.2.2.map (·.name)) ∧ n.2.2.length ≤ 8
theorem VOk.nil : VOk [] := ⟨by simp [Up], by simp, by simp, by simp⟩

/-- The node with a number. -/
theorem v_split {ns : List Nv} (hu : Up (ns.map (·.1))) {t : Int} (h : t ∈ ns.map (·.1)) : ∃ A n B, ns = A ++ n :: B ∧ A.length = rank (ns.map (·.1)) t ∧ n.1 = t := by
  obtain ⟨h1, h2⟩ := rank_lt hu h
  rw [List.length_map] at h1
  generalize rank (ns.map (·.1)) t = i at *
  rw [List.getElem?_map, List.getElem?_eq_getElem h1] at h2
  exact ⟨ns.take i, ns[i], ns.drop (i + 1), by rw [List.getElem_cons_drop, List.take_append_drop], by simp; omega, by simpa using h2⟩
theorem v_rank {A B : List Nv} {n : Nv} (hu : Up ((A ++ n :: B).map (·.1))) : rank ((A ++ n :: B).map (·.1)) n.1 = A.length := by
  rw [List.map_append, List.map_cons] at hu ⊢
  rw [rank_mid hu, List.length_map]

def vLabel (ns : List Nv) (t : Int) (s : ByteArray) : Int × List Nv :=
  if namedB s = false then (2, ns) else if t ∉ ns.map (·.1) then (7, ns) else
  match ns[rank (ns.map (·.1)) t]? with
  | none => (7, ns)
  | some n => if memS s n.2.1 = true then (0, ns) else if 8 ≤ n.2.1.length then (5, ns)
    else (0, ns.take (rank (ns.map (·.1)) t) ++ (n.1, n.2.1.take (rankS n.2.1 s) ++ s :: n.2.1.drop (rankS n.2.1 s), n.2.2) :: ns.drop (rank (ns.map (·.1)) t + 1))
theorem vLabel_mid {A B : List Nv} {n : Nv} (hu : Up ((A ++ n :: B).map (·.1))) (s : ByteArray) (hs : namedB s = true) :
    vLabel (A ++ n :: B) n.1 s = if memS s n.2.1 = true then (0, A ++ n :: B) else if 8 ≤ n.2.1.length then (5, A ++ n :: B) else (0, A ++ (n.1, n.2.1.take (rankS n.2.1 s) ++ s :: n.2.1.drop (rankS n.2.1 s), n.2.2) :: B) := by
  unfold vLabel
  rw [if_neg (by simp [hs]), if_neg (by simp), v_rank hu]
  simp
def vSet (ns : List Nv) (t : Int) (s v : ByteArray) : Int × List Nv :=
  if namedB s = false ∨ namedB v = false then (2, ns) else if t ∉ ns.map (·.1) then (7, ns) else
  match ns[rank (ns.map (·.1)) t]? with
  | none => (7, ns)
  | some n => if memS s (n.2.2.map (·.name)) = true then (0, ns.take (rank (ns.map (·.1)) t) ++ (n.1, n.2.1, n.2.2.take (rankS (n.2.2.map (·.name)) s) ++ ⟨s, v⟩ :: n.2.2.drop (rankS (n.2.2.map (·.name)) s + 1)) :: ns.drop (rank (ns.map (·.1)) t + 1))
    else if 8 ≤ n.2.2.length then (5, ns)
    else (0, ns.take (rank (ns.map (·.1)) t) ++ (n.1, n.2.1, n.2.2.take (rankS (n.2.2.map (·.name)) s) ++ ⟨s, v⟩ :: n.2.2.drop (rankS (n.2.2.map (·.name)) s)) :: ns.drop (rank (ns.map (·.1)) t + 1))
theorem vSet_mid {A B : List Nv} {n : Nv} (hu : Up ((A ++ n :: B).map (·.1))) (s v : ByteArray) (hs : namedB s = true) (hv : namedB v = true) :
    vSet (A ++ n :: B) n.1 s v = if memS s (n.2.2.map (·.name)) = true then (0, A ++ (n.1, n.2.1, n.2.2.take (rankS (n.2.2.map (·.name)) s) ++ ⟨s, v⟩ :: n.2.2.drop (rankS (n.2.2.map (·.name)) s + 1)) :: B)
    else if 8 ≤ n.2.2.length then (5, A ++ n :: B) else (0, A ++ (n.1, n.2.1, n.2.2.take (rankS (n.2.2.map (·.name)) s) ++ ⟨s, v⟩ :: n.2.2.drop (rankS (n.2.2.map (·.name)) s)) :: B) := by
  unfold vSet
  rw [if_neg (by simp [hs, hv]), if_neg (by simp), v_rank hu]
  simp

theorem rn_split {rs : List Rn} {A B : List Nv} {n : Nv} (h : rs.map Rn.tell = A ++ n :: B) : ∃ A' r B', rs = A' ++ r :: B' ∧ A'.map Rn.tell = A ∧ r.tell = n ∧ B'.map Rn.tell = B := by
  obtain ⟨A', R, rfl, hA, hR⟩ := List.map_eq_append_iff.1 h
  obtain ⟨r, B', rfl, hr, hB⟩ := List.map_eq_cons_iff.1 hR
  exact ⟨A', r, B', rfl, hA, hr, hB⟩

section
variable {w : World} {pb : Nat} {F : List Nat} {ns : List Nv} {es : List Ed} {given : Int}
theorem gv_label (h : GV w pb F ns es given) (hv : VOk ns) (t : Int) (s : ByteArray) (hl : s.size ≤ 9223372036854775807) :
    Calls Tryz.prog 27 #[.pointer (some ⟨pb, 0, none⟩), .int .i64 t, .string s] w fun e w' => e = .returned (.int .i64 (vLabel ns t s).1) ∧ GVEnd w pb F (vLabel ns t s).2 es given w' := by
  have h0 := h
  have hu := hv.up
  have hn := hv.len
  by_cases hm : t ∈ ns.map (·.1)
  · obtain ⟨A, n, B, rfl, hA, rfl⟩ := v_split hu hm
    obtain ⟨rs, hg, hrs⟩ := h
    obtain ⟨A', r, B', rfl, rfl, rfl, rfl⟩ := rn_split hrs
    have hu' : Up (((A' ++ r :: B').map (·.nd)).map (·.id)) := by rw [← tell_ids, hrs]; exact hu
    have hn' : (A' ++ r :: B').length ≤ 1000000 := by rw [← List.length_map (f := Rn.tell), hrs]; omega
    cases hs : namedB s with
    | false =>
      have e : vLabel (A'.map Rn.tell ++ r.tell :: B'.map Rn.tell) r.tell.1 s = (2, A'.map Rn.tell ++ r.tell :: B'.map Rn.tell) := by simp [vLabel, hs]
      rw [e]
      exact (glabel_name hg hu' hn' r.nd.id s hl hs).mono fun e w' ⟨he, f⟩ => ⟨he, GVEnd.quiet h0 f⟩
    | true =>
      rw [vLabel_mid hu s hs]
      have hr := hv.ls r.tell (by simp)
      cases hq : memS s r.ls with
      | true =>
        rw [if_pos (show memS s r.tell.2.1 = true from hq)]
        exact (glabel_has hg hu' hn' s hl hs hr.1 hq).mono fun e w' ⟨he, f⟩ => ⟨he, GVEnd.quiet h0 f⟩
      | false =>
        rw [if_neg (show ¬ memS s r.tell.2.1 = true by simpa [Rn.tell] using hq)]
        by_cases h8 : 8 ≤ r.ls.length
        · rw [if_pos (show 8 ≤ r.tell.2.1.length from h8)]
          exact (glabel_full hg hu' hn' s hl hs hr.1 hq h8).mono fun e w' ⟨he, f⟩ => ⟨he, GVEnd.quiet h0 f⟩
        · rw [if_neg (show ¬ 8 ≤ r.tell.2.1.length from h8)]
          refine (glabel_ins hg hu' hn' s hl hs hr.1 hq (by omega)).mono ?_
          rintro e w' ⟨he, r', F', hr', a1, a2, a3⟩
          exact ⟨he, F', ⟨_, a1, by rw [List.map_append, List.map_cons, hr']; rfl⟩, a2, a3⟩
  · obtain ⟨rs, hg, rfl⟩ := h
    have hu' : Up ((rs.map (·.nd)).map (·.id)) := by rw [← tell_ids]; exact hu
    have hn' : rs.length ≤ 1000000 := by rw [← List.length_map (f := Rn.tell)]; omega
    cases hs : namedB s with
    | false =>
      have e : vLabel (rs.map Rn.tell) t s = (2, rs.map Rn.tell) := by simp [vLabel, hs]
      rw [e]
      exact (glabel_name hg hu' hn' t s hl hs).mono fun e w' ⟨he, f⟩ => ⟨he, GVEnd.quiet h0 f⟩
    | true =>
      have e : vLabel (rs.map Rn.tell) t s = (7, rs.map Rn.tell) := by unfold vLabel; rw [if_neg (by simp [hs]), if_pos hm]
      rw [e]
      exact (glabel_none hg hu' hn' t s hl hs (by rw [← tell_ids]; exact hm)).mono fun e w' ⟨he, f⟩ => ⟨he, GVEnd.quiet h0 f⟩
theorem gv_set (h : GV w pb F ns es given) (hv : VOk ns) (t : Int) (s v : ByteArray) (hl : s.size ≤ 9223372036854775807) (hlv : v.size ≤ 9223372036854775807) :
    Calls Tryz.prog 61 #[.pointer (some ⟨pb, 0, none⟩), .int .i64 t, .string s, .string v] w fun e w' => e = .returned (.int .i64 (vSet ns t s v).1) ∧ GVEnd w pb F (vSet ns t s v).2 es given w' := by
  have h0 := h
  have hu := hv.up
  have hn := hv.len
  cases hs : namedB s with
  | false =>
    obtain ⟨rs, hg, rfl⟩ := h
    have e : vSet (rs.map Rn.tell) t s v = (2, rs.map Rn.tell) := by simp [vSet, hs]
    rw [e]
    exact (gset_name hg (by rw [← tell_ids]; exact hu) (by rw [← List.length_map (f := Rn.tell)]; omega) t s v hl hs).mono fun e w' ⟨he, f⟩ => ⟨he, GVEnd.quiet h0 f⟩
  | true =>
  cases hsv : namedB v with
  | false =>
    obtain ⟨rs, hg, rfl⟩ := h
    have e : vSet (rs.map Rn.tell) t s v = (2, rs.map Rn.tell) := by simp [vSet, hsv]
    rw [e]
    exact (gset_value hg (by rw [← tell_ids]; exact hu) (by rw [← List.length_map (f := Rn.tell)]; omega) t s v hl hs hlv hsv).mono fun e w' ⟨he, f⟩ => ⟨he, GVEnd.quiet h0 f⟩
  | true =>
  by_cases hm : t ∈ ns.map (·.1)
  · obtain ⟨A, n, B, rfl, hA, rfl⟩ := v_split hu hm
    obtain ⟨rs, hg, hrs⟩ := h
    obtain ⟨A', r, B', rfl, rfl, rfl, rfl⟩ := rn_split hrs
    have hu' : Up (((A' ++ r :: B').map (·.nd)).map (·.id)) := by rw [← tell_ids, hrs]; exact hu
    have hn' : (A' ++ r :: B').length ≤ 1000000 := by rw [← List.length_map (f := Rn.tell), hrs]; omega
    rw [vSet_mid hu s v hs hsv]
    have hr := hv.ps r.tell (by simp)
    cases hq : memS s (r.ps.map (·.name)) with
    | true =>
      rw [if_pos (show memS s (r.tell.2.2.map (·.name)) = true from hq)]
      refine (gset_has hg hu' hn' s v hl hs hlv hsv hr.1 hq).mono ?_
      rintro e w' ⟨he, r', F', hr', a1, a2, a3⟩
      exact ⟨he, F', ⟨_, a1, by rw [List.map_append, List.map_cons, hr']; rfl⟩, a2, a3⟩
    | false =>
      rw [if_neg (show ¬ memS s (r.tell.2.2.map (·.name)) = true by simpa [Rn.tell] using hq)]
      by_cases h8 : 8 ≤ r.ps.length
      · rw [if_pos (show 8 ≤ r.tell.2.2.length from h8)]
        exact (gset_full hg hu' hn' s v hl hs hlv hsv hr.1 hq h8).mono fun e w' ⟨he, f⟩ => ⟨he, GVEnd.quiet h0 f⟩
      · rw [if_neg (show ¬ 8 ≤ r.tell.2.2.length from h8)]
        refine (gset_ins hg hu' hn' s v hl hs hlv hsv hr.1 hq (by omega)).mono ?_
        rintro e w' ⟨he, r', F', hr', a1, a2, a3⟩
        exact ⟨he, F', ⟨_, a1, by rw [List.map_append, List.map_cons, hr']; rfl⟩, a2, a3⟩
  · obtain ⟨rs, hg, rfl⟩ := h
    have e : vSet (rs.map Rn.tell) t s v = (7, rs.map Rn.tell) := by unfold vSet; rw [if_neg (by simp [hs, hsv]), if_pos hm]
    rw [e]
    exact (gset_none hg (by rw [← tell_ids]; exact hu) (by rw [← List.length_map (f := Rn.tell)]; omega) t s v hl hs hlv hsv (by rw [← tell_ids]; exact hm)).mono fun e w' ⟨he, f⟩ => ⟨he, GVEnd.quiet h0 f⟩
end

theorem VOk.change {A B : List Nv} {n n' : Nv} (h : VOk (A ++ n :: B)) (h1 : n'.1 = n.1) (h2 : UpS n'.2.1 ∧ n'.2.1.length ≤ 8) (h3 : UpS (n'.2.2.map (·.name)) ∧ n'.2.2.length ≤ 8) : VOk (A ++ n' :: B) := by
  obtain ⟨a, b, c, d⟩ := h
  refine ⟨by simpa [h1] using a, by simpa using b, fun x hx => ?_, fun x hx => ?_⟩
  · rcases List.mem_append.1 hx with hx | hx
    · exact c x (by simp [hx])
    · rcases List.mem_cons.1 hx with rfl | hx
      · exact h2
      · exact c x (by simp [hx])
  · rcases List.mem_append.1 hx with hx | hx
    · exact d x (by simp [hx])
    · rcases List.mem_cons.1 hx with rfl | hx
      · exact h3
      · exact d x (by simp [hx])
theorem VOk.label {ns : List Nv} (h : VOk ns) (t : Int) (s : ByteArray) : VOk (vLabel ns t s).2 := by
  cases hs : namedB s with
  | false => simpa [vLabel, hs] using h
  | true =>
    by_cases hm : t ∈ ns.map (·.1)
    · obtain ⟨A, n, B, rfl, hA, rfl⟩ := v_split h.up hm
      rw [vLabel_mid h.up s hs]
      cases hq : memS s n.2.1 with
      | true => exact h
      | false =>
        by_cases h8 : 8 ≤ n.2.1.length
        · rw [if_neg (by simp), if_pos h8]; exact h
        · rw [if_neg (by simp), if_neg h8]
          have hn := h.ls n (by simp)
          exact h.change rfl ⟨upS_ins hn.1 (memS_not.1 hq), by have := rankS_le n.2.1 s; simp; omega⟩ (h.ps n (by simp))
    · have e : vLabel ns t s = (7, ns) := by unfold vLabel; rw [if_neg (by simp [hs]), if_pos hm]
      rw [e]; exact h
theorem VOk.set {ns : List Nv} (h : VOk ns) (t : Int) (s v : ByteArray) : VOk (vSet ns t s v).2 := by
  by_cases hs : namedB s = false ∨ namedB v = false
  · simpa [vSet, hs] using h
  · have hs1 : namedB s = true := by cases h1 : namedB s <;> simp [h1] at hs ⊢
    have hs2 : namedB v = true := by cases h1 : namedB v <;> simp [h1] at hs ⊢
    by_cases hm : t ∈ ns.map (·.1)
    · obtain ⟨A, n, B, rfl, hA, rfl⟩ := v_split h.up hm
      rw [vSet_mid h.up s v hs1 hs2]
      have hn := h.ps n (by simp)
      cases hq : memS s (n.2.2.map (·.name)) with
      | true =>
        rw [if_pos rfl]
        have hkm := rankS_mem (t := s) (rankS_le (n.2.2.map (·.name)) s) (rankS_lt hn.1).1 hn.1 (rankS_lt hn.1).2
        rw [hq] at hkm
        have hks : (n.2.2.map (·.name))[rankS (n.2.2.map (·.name)) s]? = some s := by simpa using hkm.symm
        have hkl : rankS (n.2.2.map (·.name)) s < n.2.2.length := by simpa using (List.getElem?_eq_some_iff.1 hks).1
        generalize rankS (n.2.2.map (·.name)) s = k at *
        have hnm : n.2.2[k].name = s := by
          rw [List.getElem?_map, List.getElem?_eq_getElem hkl] at hks
          simpa using hks
        have he : (n.2.2.take k ++ (⟨s, v⟩ : Pr) :: n.2.2.drop (k + 1)).map (·.name) = n.2.2.map (·.name) := by
          rw [List.map_append, List.map_cons, List.map_take, List.map_drop]
          have hk' : k < (n.2.2.map (·.name)).length := by simpa using hkl
          have : (n.2.2.map (·.name))[k] = s := by simpa using hnm
          rw [← this, List.getElem_cons_drop, List.take_append_drop]
        exact h.change rfl (h.ls n (by simp)) ⟨by rw [he]; exact hn.1, by rw [← List.length_map (f := (·.name)), he, List.length_map]; exact hn.2⟩
      | false =>
        by_cases h8 : 8 ≤ n.2.2.length
        · rw [if_neg (by simp), if_pos h8]; exact h
        · rw [if_neg (by simp), if_neg h8]
          refine h.change rfl (h.ls n (by simp)) ⟨?_, by have := rankS_le (n.2.2.map (·.name)) s; simp at this ⊢; omega⟩
          have := upS_ins (t := s) hn.1 (memS_not.1 hq)
          simpa using this
    · have e : vSet ns t s v = (7, ns) := by unfold vSet; rw [if_neg hs, if_pos hm]
      rw [e]; exact h
theorem VOk.addNode {ns : List Nv} (h : VOk ns) (t : Int) : VOk (vAddNode ns t).2 := by
  unfold vAddNode
  split
  · exact h
  · split
    · exact h
    · split
      · exact h
      · rename_i q1 q2 q3
        obtain ⟨a, b, c, d⟩ := h
        have hr := rank_le (ns.map (·.1)) t
        rw [List.length_map] at hr
        refine ⟨?_, by simp; omega, fun x hx => ?_, fun x hx => ?_⟩
        · have := up_ins a q2
          simpa using this
        · rcases List.mem_append.1 hx with hx | hx
          · exact c x (List.mem_of_mem_take hx)
          · rcases List.mem_cons.1 hx with rfl | hx
            · simp [UpS]
            · exact c x (List.mem_of_mem_drop hx)
        · rcases List.mem_append.1 hx with hx | hx
          · exact d x (List.mem_of_mem_take hx)
          · rcases List.mem_cons.1 hx with rfl | hx
            · simp [UpS]
            · exact d x (List.mem_of_mem_drop hx)
theorem VOk.sub {ns ns' : List Nv} (h : VOk ns) (hs : ns'.Sublist ns) : VOk ns' :=
  ⟨h.up.sublist (hs.map _), Nat.le_trans hs.length_le h.len, fun x hx => h.ls x (hs.subset hx), fun x hx => h.ps x (hs.subset hx)⟩
theorem VOk.dropNode {ns : List Nv} (h : VOk ns) (es : List Ed) (t : Int) : VOk (vDropNode ns es t).2 := by
  unfold vDropNode
  split
  · exact h
  · split
    · exact h
    · exact h.sub (List.eraseIdx_sublist _ _)
end Go.Proofs.YtjcajidgaejhoaaGreat

