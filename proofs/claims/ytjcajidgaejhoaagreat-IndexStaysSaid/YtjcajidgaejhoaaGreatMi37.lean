/- All of a graph. -/
import Derived.Test.YtjcajidgaejhoaaGreatMi14
import Derived.Deep.AppendLies
namespace Go.Proofs.YtjcajidgaejhoaaGreat
open Go.RowKit
set_option linter.unusedSimpArgs false
set_option linter.unusedVariables false


theorem wrap_ok (x : Int) (h : 0 ≤ x) (h1 : x ≤ 1099511627776) : IntKind.i64.wrap (x + 1) = x + 1 := by
  first | (go_num; done) | (unfold IntKind.wrap; simp [IntKind.signed, IntKind.bits]; omega) | (simp [IntKind.wrap, IntKind.signed, IntKind.bits, IntKind.min, IntKind.max]; omega)

/-- All's own graph behind k rounds. -/
abbrev AllSt (wa : World) (gb : Nat) (ae' : Option Addr) (ec' : Nat) (H' : List Nat) (es : List Ed) (given : Int) (rs rs' : List Rn) (k : Nat) (an' : Option Addr) (nc' : Nat) (G' : List Nat) (wr : World) : Prop :=
  rs'.map Rn.tell = (rs.take k).map Rn.tell ∧ (∀ r ∈ rs', r.ok wr) ∧
      Blk wr gb 25 #[.slice an' k nc', .slice ae' es.length ec', .int .i64 (given + 1)] ∧ Sl wr 41 3 Nd.cs (.slice an' k nc') (rs'.map (·.nd)) G' ∧ Sl wr 44 4 Ed.cs (.slice ae' es.length ec') es H' ∧ Frame [] wa wr ∧ (gb :: (G' ++ H' ++ rs'.flatMap Rn.bl)).Nodup ∧ ∀ x ∈ G' ++ H' ++ rs'.flatMap Rn.bl, wa.heap.size ≤ x
theorem all_step {wa wr v w6 : World} {gb : Nat} {ae' : Option Addr} {ec' : Nat} {H' : List Nat} {es : List Ed} {given : Int} {rs rs' : List Rn} {k : Nat} {an' : Option Addr} {nc' : Nat} {G' : List Nat} {n' : Nd} {r : Rn} {L' P' : List Nat} {b' cap' : Nat}
    (h : AllSt wa gb ae' ec' H' es given rs rs' k an' nc' G' wr) (hgb : wa.heap.size ≤ gb) (fv : Frame [] wr v) (hn : NdAt v n' r.ls r.ps L' P') (hid : n'.id = r.nd.id) (htk : rs.take (k + 1) = rs.take k ++ [r]) (hl1 : r.ls.length ≤ 1000000) (hl2 : r.ps.length ≤ 1000000)
    (hnew : ∀ x, x ∈ L' ∨ x ∈ P' → wr.heap.size ≤ x) (sl6 : Sl w6 41 3 Nd.cs (.slice (some ⟨b', 0, none⟩) (k + 1) cap') (rs'.map (·.nd) ++ [n']) [b']) (f6 : Frame G' v w6) (hb' : b' ∈ G' ∨ b' = v.heap.size) :
    AllSt wa gb ae' ec' H' es given rs (rs' ++ [⟨n', r.ls, r.ps, L', P'⟩]) (k + 1) (some ⟨b', 0, none⟩) cap' [b'] (w6.setCell ⟨gb, 0, none⟩ (.slice (some ⟨b', 0, none⟩) (k + 1) cap')) := by
  obtain ⟨h1, h2, h3, h4, h5, h6, h7, h8⟩ := h
  have hnd := List.nodup_cons.1 h7
  have hgG : gb ∉ G' := fun h => hnd.1 (by simp [h])
  have hgH : gb ∉ H' := fun h => hnd.1 (by simp [h])
  have hgR : ∀ x ∈ rs', ∀ y ∈ x.bl, y ≠ gb := fun x hx y hy e => hnd.1 (by subst e; simp; exact .inr (.inr ⟨x, hx, hy⟩))
  obtain ⟨n1, n2, n3⟩ := List.nodup_append.1 hnd.2
  obtain ⟨n4, n5, n6⟩ := List.nodup_append.1 n1
  have ltG : ∀ x ∈ G', x < wr.heap.size := h4.lt
  have ltH : ∀ x ∈ H', x < wr.heap.size := h5.lt
  have ltR : ∀ x ∈ rs', ∀ y ∈ x.bl, y < wr.heap.size := fun x hx y hy => by
    simp [Rn.bl] at hy
    exact (h2 x hx).1.lt y hy
  have ltg := h3.lt
  have hz := fv.size
  have b1 : ∀ x ∈ H', x ≠ b' := fun x hx e => by
    rcases hb' with h | h
    · exact n6 b' h x hx e.symm
    · have := ltH x hx; omega
  have b2 : ∀ x ∈ rs', ∀ y ∈ x.bl, y ≠ b' := fun x hx y hy e => by
    rcases hb' with h | h
    · exact n3 b' (by simp [h]) y (by simp; exact ⟨x, hx, hy⟩) e.symm
    · have := ltR x hx y hy; omega
  have b3 : b' ≠ gb := fun e => by
    rcases hb' with h | h
    · exact hgG (e ▸ h)
    · omega
  have ltn : ∀ x, x ∈ L' ∨ x ∈ P' → x < v.heap.size := fun x hx => hn.lt x hx
  have b4 : ∀ x, x ∈ L' ∨ x ∈ P' → x ≠ b' := fun x hx e => by
    have l1 := hnew x hx
    have l2 := ltn x hx
    rcases hb' with h | h
    · have := ltG b' h; omega
    · omega
  have b5 : ∀ x, x ∈ L' ∨ x ∈ P' → x ≠ gb := fun x hx e => by have := hnew x hx; omega
  have hG6 : ∀ x ∈ G', x < wr.heap.size := ltG
  have fs := Frame.setCell (S := [gb]) w6 ⟨gb, 0, none⟩ (.slice (some ⟨b', 0, none⟩) (k + 1) cap') (by simp)
  have fv2 : Frame (gb :: G') v (w6.setCell ⟨gb, 0, none⟩ (.slice (some ⟨b', 0, none⟩) (k + 1) cap')) := (f6.mono (fun x hx => .inl (by simp [hx]))).trans1 (fs.mono (fun x hx => .inl (by simp at hx; simp [hx])))
  have fw : Frame (gb :: G') wr (w6.setCell ⟨gb, 0, none⟩ (.slice (some ⟨b', 0, none⟩) (k + 1) cap')) := (fv.mono (by simp)).trans1 fv2
  have hnG : ∀ x, x ∈ L' ∨ x ∈ P' → x ∉ gb :: G' := fun x hx hm => by
    simp at hm
    rcases hm with hm | hm
    · exact b5 x hx hm
    · have := ltG x hm; have := hnew x hx; omega
  refine ⟨?_, ?_, ?_, ?_, ?_, ?_, ?_, ?_⟩
  · rw [htk, List.map_append, List.map_append, h1]
    simp [Rn.tell, hid]
  · intro x hx
    rcases List.mem_append.1 hx with hx | hx
    · refine Rn.ok_frame (h2 x hx) fw (fun y hy hm => ?_)
      simp at hm
      rcases hm with hm | hm
      · exact hgR x hx y hy hm
      · exact n3 y (by simp [hm]) y (by simp; exact ⟨x, hx, hy⟩) rfl
    · simp at hx
      subst hx
      exact ⟨hn.frame fv2 (fun x hx => hnG x (.inl hx)) (fun x hx => hnG x (.inr hx)), hl1, hl2⟩
  · have := ((h3.frame fv (by simp)).frame f6 hgG).set 0 (.slice (some ⟨b', 0, none⟩) (k + 1) cap')
    simpa using this
  · have := sl6.frame fs (by simpa using b3)
    simpa using this
  · exact h5.frame fw (fun x hx hm => by
      simp at hm
      rcases hm with hm | hm
      · exact hgH (hm ▸ hx)
      · exact n6 x hm x hx rfl)
  · refine h6.trans fw (fun x hx => ?_)
    simp at hx
    rcases hx with rfl | hx
    · exact .inr hgb
    · exact .inr (h8 x (by simp [hx]))
  · have e1 : (rs' ++ [(⟨n', r.ls, r.ps, L', P'⟩ : Rn)]).flatMap Rn.bl = rs'.flatMap Rn.bl ++ (L' ++ P') := by simp [Rn.bl]
    rw [e1]
    have m1 : (L' ++ P').Nodup := List.nodup_append.2 ⟨hn.2.2.1.nodup, hn.2.2.2.1.nodup, fun x hx y hy e => hn.2.2.2.2 x hx (e ▸ hy)⟩
    have m2 : (rs'.flatMap Rn.bl ++ (L' ++ P')).Nodup := List.nodup_append.2 ⟨n2, m1, fun x hx y hy e => by
      obtain ⟨z, hz1, hz2⟩ := List.mem_flatMap.1 hx
      have a1 := ltR z hz1 x hz2
      have a2 := hnew y (List.mem_append.1 hy)
      omega⟩
    have m3 : ([b'] ++ H').Nodup := List.nodup_append.2 ⟨by simp, n5, fun x hx y hy e => by simp at hx; subst hx; exact b1 y hy e.symm⟩
    refine List.nodup_cons.2 ⟨fun hm => ?_, List.nodup_append.2 ⟨m3, m2, fun x hx y hy e => ?_⟩⟩
    · simp only [List.mem_append, List.mem_singleton, List.mem_flatMap] at hm
      rcases hm with (hm | hm) | ⟨z, hz1, hz2⟩ | hm
      · exact b3 hm.symm
      · exact hgH hm
      · exact hgR z hz1 _ hz2 rfl
      · exact b5 _ hm rfl
    · subst e
      simp only [List.mem_append, List.mem_singleton, List.mem_flatMap] at hx hy
      rcases hx with hx | hx
      · subst hx
        rcases hy with ⟨z, hz1, hz2⟩ | hy
        · exact b2 z hz1 _ hz2 rfl
        · exact b4 _ hy rfl
      · rcases hy with ⟨z, hz1, hz2⟩ | hy
        · exact n3 x (by simp [hx]) x (by simp; exact ⟨z, hz1, hz2⟩) rfl
        · have a1 := ltH x hx; have a2 := hnew x hy; omega
  · have z1 := h6.size
    intro x hx
    simp only [List.mem_append, List.mem_singleton, List.mem_flatMap] at hx
    rcases hx with (hx | hx) | ⟨z, hz1, hz2⟩
    · subst hx
      rcases hb' with h | h
      · exact h8 x (by simp [h])
      · omega
    · exact h8 x (by simp [hx])
    · rcases hz1 with hz1 | hz1
      · exact h8 x (by simp; exact .inr (.inr ⟨z, hz1, hz2⟩))
      · subst hz1
        have := hnew x (by simpa [Rn.bl] using hz2)
        omega

set_option maxHeartbeats 4000000 in
set_option maxRecDepth 100000 in
theorem gall_any {w : World} {pb : Nat} {F : List Nat} {es : List Ed} {given : Int} (rs : List Rn) (h : GSt w pb F (rs.map (·.nd)) es given) (hr : ∀ r ∈ rs, r.ok w) (hn : rs.length ≤ 1000000) (he : es.length ≤ 1000000) (hg : 0 ≤ given ∧ given ≤ 1099511627776) :
    Calls Tryz.prog 36 #[.pointer (some ⟨pb, 0, none⟩)] w fun e w' => ∃ (rs' : List Rn) (an : Option Addr) (nc : Nat) (ae : Option Addr) (ec : Nat) (G H : List Nat), e = .returned (.agg #[.slice an rs'.length nc, .slice ae es.length ec, .int .i64 (given + 1)]) ∧ rs'.map Rn.tell = rs.map Rn.tell ∧ (∀ r ∈ rs', r.ok w') ∧
      Sl w' 41 3 Nd.cs (.slice an rs'.length nc) (rs'.map (·.nd)) G ∧ Sl w' 44 4 Ed.cs (.slice ae es.length ec) es H ∧ Frame [] w w' ∧ (G ++ H ++ rs'.flatMap Rn.bl).Nodup ∧ ∀ x ∈ G ++ H ++ rs'.flatMap Rn.bl, w.heap.size ≤ x := by
  obtain ⟨an, nc, ae, ec, G, H, hb, sn, se, n1, n2, n3, rfl⟩ := h
  have HC := Lib.hid (fun w' (f : Frame [] w w') => clone_edge ae ec es H w' (se.frame0 f) he)
  have A := Lib.hid (And.intro hb (And.intro sn (And.intro n1 (And.intro hr hg))))
  have c1 := hb.at 1 rfl
  have c2 := hb.at 2 rfl
  have c0 := hb.at 0 rfl
  obtain ⟨hg0, hg1⟩ := hg
  have hw := wrap_ok given hg0 hg1
  clear hb sn se n1 n2 n3 hr
  go_enter Tryz.func36, Tryz.ntmps36
  go_wp2_with fail
  have fr : Frame [] w (w.alloc (.cells #[.slice none 0 0, .slice none 0 0, .int .i64 0] 25)) := Frame.alloc _ _ _
  have b0 := Blk.new w 25 #[.slice none 0 0, .slice none 0 0, .int .i64 0]
  have hsz : (w.alloc (.cells #[.slice none 0 0, .slice none 0 0, .int .i64 0] 25)).heap.size = w.heap.size + 1 := by simp
  generalize w.alloc (.cells #[.slice none 0 0, .slice none 0 0, .int .i64 0] 25) = wa at *
  have BA := Lib.hid (A.out.1.frame fr (by simp))
  clear c0 c1 c2
  have c1 : wa.cell? ⟨pb, 1, none⟩ = some (.slice ae es.length ec) := BA.out.at 1 rfl
  have c2 : wa.cell? ⟨pb, 2, none⟩ = some (.int .i64 given) := BA.out.at 2 rfl
  have lta := BA.out.lt
  have d1 : ∀ o, (wa.drew.alloc o).cell? ⟨pb, 1, none⟩ = some (.slice ae es.length ec) := fun o => (BA.out.drew.alloc o).at 1 rfl
  have d2 : ∀ o, (wa.drew.alloc o).cell? ⟨pb, 2, none⟩ = some (.int .i64 given) := fun o => (BA.out.drew.alloc o).at 2 rfl
  have BZ := Lib.hid b0
  have FR := Lib.hid fr
  have HZ := Lib.hid hsz
  clear b0 hsz
  go_cut [3, 13, 19] (fun u v x wx => ∃ gb ae' ec' H', u = .pointer (some ⟨gb, 0, none⟩) ∧ v = .slice ae' es.length ec' ∧ x = .agg #[.slice none 0 0, .slice ae' es.length ec', .int .i64 (given + 1)] ∧ Hid (Blk wx gb 25 #[.slice none 0 0, .slice ae' es.length ec', .int .i64 (given + 1)] ∧ Frame [] wa wx ∧ Sl wx 44 4 Ed.cs (.slice ae' es.length ec') es H' ∧ wa.heap.size ≤ gb ∧ gb ∉ H' ∧ ∀ x ∈ H', wa.heap.size ≤ x))
  case first =>
   go_region_with (go_at_call 65; refine (HC.out _ (by (repeat first | assumption | exact Frame.refl _ _ | refine Frame.trans1 ?_ (Frame.alloc _ _ _) | refine Frame.trans1 ?_ (Frame.drew _ _) | refine Frame.trans1 ?_ (Frame.drewN _ _ _)))).mono ?_; rintro e ws ⟨ae', ec', H', rfl, ssl, sf, snw⟩; have fas : Frame [] wa ws := (show Frame [] wa _ from by (repeat first | assumption | exact Frame.refl _ _ | refine Frame.trans1 ?_ (Frame.alloc _ _ _) | refine Frame.trans1 ?_ (Frame.drew _ _) | refine Frame.trans1 ?_ (Frame.drewN _ _ _))).trans1 sf; have c2 : ws.cell? ⟨pb, 2, none⟩ = some (.int .i64 given) := (BA.out.frame fas (by simp)).at 2 rfl; have lts := (BA.out.frame fas (by simp)).lt; have c2d : ∀ o, (ws.drew.alloc o).cell? ⟨pb, 2, none⟩ = some (.int .i64 given) := fun o => (((BA.out.frame fas (by simp)).drew).alloc o).at 2 rfl; have c2e : ∀ o, (ws.alloc o).cell? ⟨pb, 2, none⟩ = some (.int .i64 given) := fun o => (((BA.out.frame fas (by simp))).alloc o).at 2 rfl; (try have gz : Blk ws wa.heap.size 25 #[.slice none 0 0, .slice none 0 0, .int .i64 0] := (Blk.new wa.drew _ _).frame sf (by simp)); (try have m0 : ws.cell? ⟨wa.heap.size, 0, none⟩ = some (.slice none 0 0) := gz.at 0 rfl); (try have m1 : ws.cell? ⟨wa.heap.size, 1, none⟩ = some (.slice none 0 0) := gz.at 1 rfl); (try have m2 : ws.cell? ⟨wa.heap.size, 2, none⟩ = some (.int .i64 0) := gz.at 2 rfl); (try have n0 := gz.frozen 0); (try have n1 := gz.frozen 1); (try have n2 := gz.frozen 2); have SL := Lib.hid ssl; have NW := Lib.hid snw; clear ssl snw)
   all_goals
     go_wp2_with fail
     go_meet
     case rel =>
       first
         | (have gq := gz
            have nw1 : ∀ x ∈ H', wa.heap.size + 1 ≤ x := fun x hx => by have := NW.out x hx; simpa using this
            refine ⟨wa.heap.size, ae', ec', H', rfl, rfl, rfl, Lib.hid ⟨?_, Frame.trans (S' := [wa.heap.size]) fas (by (repeat first | assumption | exact Frame.refl _ _ | refine Frame.trans1 ?_ (Frame.alloc _ _ _) | refine Frame.trans1 ?_ (Frame.drew _ _) | refine Frame.trans1 ?_ (Frame.drewN _ _ _) | refine Frame.trans1 ?_ (Frame.setCell _ _ _ (by simp)))) (by simp), SL.out.frame (S := [wa.heap.size]) (by (repeat first | assumption | exact Frame.refl _ _ | refine Frame.trans1 ?_ (Frame.alloc _ _ _) | refine Frame.trans1 ?_ (Frame.drew _ _) | refine Frame.trans1 ?_ (Frame.drewN _ _ _) | refine Frame.trans1 ?_ (Frame.setCell _ _ _ (by simp)))) (fun x hx hm => by have := nw1 x hx; simp at hm; omega), Nat.le_refl _, fun h => by have := nw1 _ h; omega, fun x hx => by have := nw1 x hx; omega⟩⟩
            first
              | simpa using ((gz.set 0 (.slice none 0 0)).set 1 (.slice ae' es.length ec')).set 2 (.int .i64 (given + 1))
              | simpa using ((gz.drew.set 0 (.slice none 0 0)).set 1 (.slice ae' es.length ec')).set 2 (.int .i64 (given + 1)))
         | refine ⟨ws.heap.size, ae', ec', H', rfl, rfl, rfl, Lib.hid ⟨Blk.new _ _ _, Frame.trans1 fas (by (repeat first | assumption | exact Frame.refl _ _ | refine Frame.trans1 ?_ (Frame.alloc _ _ _) | refine Frame.trans1 ?_ (Frame.drew _ _) | refine Frame.trans1 ?_ (Frame.drewN _ _ _))), SL.out.frame0 (by (repeat first | assumption | exact Frame.refl _ _ | refine Frame.trans1 ?_ (Frame.alloc _ _ _) | refine Frame.trans1 ?_ (Frame.drew _ _) | refine Frame.trans1 ?_ (Frame.drewN _ _ _))), fas.size, fun h => absurd (SL.out.lt _ h) (Nat.lt_irrefl _), fun x hx => by have := NW.out x hx; simpa using this⟩⟩
  case rest =>
    obtain ⟨gb, ae', ec', H', rfl, rfl, rfl, hq⟩ := hcut
    have hpb := BA.out.frame hq.out.2.1 (by simp)
    have p0 : wc.cell? ⟨pb, 0, none⟩ = some (.slice an (rs.map (·.nd)).length nc) := hpb.at 0 rfl
    rw [List.length_map] at p0
    clear c1 c2 d1 d2
    have hgbz := hq.out.2.2.2.1
    go_wp2_with fail
    go_loopw [5, 25] (fun p i wr => ∃ (k : Nat) (rs' : List Rn) (an' : Option Addr) (nc' : Nat) (G' : List Nat), k ≤ rs.length ∧ i = .int .i64 k ∧ rs'.length = k ∧ Hid (AllSt wa gb ae' ec' H' es given rs rs' k an' nc' G' wr)) (fun _ i _ => rs.length - (intOf i).toNat)
    case atStart =>
      exact ⟨0, [], none, 0, [], Nat.zero_le _, rfl, rfl, by simp, by simp, hq.out.1, Sl.nil _ _ _ _, hq.out.2.2.1, hq.out.2.1, by simpa using ⟨hq.out.2.2.2.2.1, Sl.nodup hq.out.2.2.1⟩, by simpa using hq.out.2.2.2.2.2⟩
    case round =>
      obtain ⟨k, rs', an', nc', G', hk, rfl, hl, hR⟩ := hrel
      by_cases hlt : k < rs.length
      · have hx : (rs.map (·.nd))[k]? = some rs[k].nd := by simp [hlt]
        have hf := hR.out.2.2.2.2.2.1
        have hfw := FR.out.trans1 hf
        obtain ⟨nb, ncc, e9, _, _, hcells⟩ := (A.out.2.1.frame0 hfw).cell nd_len hx
        have hrk := A.out.2.2.2.1 rs[k] (List.getElem_mem hlt)
        have htk : rs.take (k + 1) = rs.take k ++ [rs[k]] := by rw [List.take_add_one]; simp [hlt]
        generalize rs[k] = r at *
        injection e9 with e91 _ e93
        subst e91 e93
        have hown := fun w' (f : Frame [] w w') => own_any r.nd r.ls r.ps r.L r.P w' ((Rn.ok_frame hrk f (by simp)).1) hrk.2.1 hrk.2.2
        have d0 := hcells 0 _ rfl
        have d1 := hcells 1 _ rfl
        have d2 := hcells 2 _ rfl
        simp only [Nat.add_zero] at d0
        have HO := Lib.hid hown
        have TK := Lib.hid htk
        have HRK := Lib.hid hrk.2
        have FW := Lib.hid hfw
        have HLN := Lib.hid hl
        clear hcells hown htk hx hrk hf hfw p0 hl hq
        have hgb := hR.out.2.2.1
        have e0 := hgb.at 0 rfl
        have HG := Lib.hid hgb
        clear hgb
        generalize hnn : r.nd = nn at *
        have HNN := Lib.hid hnn
        clear hnn
        go_upto_region 7 with fail
        have fv0 : Frame [] wr (wr.alloc (.cells #[.int .i64 nn.id, .slice nn.la nn.ln nn.lc, .slice nn.pa nn.pn nn.pc] 41)) := Frame.alloc _ _ _
        have xb := HG.out.frame fv0 (by simp)
        have x0 := xb.at 0 rfl
        have hgG : gb ∉ G' := fun h => (List.nodup_cons.1 hR.out.2.2.2.2.2.2.1).1 (by simp [h])
        have hzG : wr.heap.size ∉ G' := fun h => by have := hR.out.2.2.2.1.lt _ h; omega
        have bn := Blk.new wr 41 #[.int .i64 nn.id, .slice nn.la nn.ln nn.lc, .slice nn.pa nn.pn nn.pc]
        have y0 := bn.at 0 rfl
        have y1 := bn.at 1 rfl
        have y2 := bn.at 2 rfl
        generalize hwv : wr.alloc (.cells #[.int .i64 nn.id, .slice nn.la nn.ln nn.lc, .slice nn.pa nn.pn nn.pc] 41) = wv at *
        have BN := Lib.hid bn
        have SLN := Lib.hid (hR.out.2.2.2.1.frame0 fv0)
        have HLM : Hid ((rs'.map (·.nd)).length = k) := Lib.hid (by rw [List.length_map, HLN.out])
        have XB := Lib.hid xb
        clear xb
        have WV := Lib.hid hwv
        clear bn hwv e0 d0 d1 d2
        go_region_law (first
          | (go_simp; go_at_call 66; refine (HO.out _ (FW.out.trans1 (show Frame [] wr _ from by (repeat first | assumption | exact Frame.refl _ _ | refine Frame.trans1 ?_ (Frame.alloc _ _ _) | refine Frame.trans1 ?_ (Frame.drew _ _) | refine Frame.trans1 ?_ (Frame.drewN _ _ _))))).mono ?_; rintro e w5 ⟨n', L', P', rfl, hid, hnd, f5, hnew⟩; have HID := Lib.hid (And.intro hid (And.intro hnd (And.intro f5 hnew))); clear hid hnd hnew; have f5w : Frame [] wv w5 := (show Frame [] wv _ from by (repeat first | assumption | exact Frame.refl _ _ | refine Frame.trans1 ?_ (Frame.alloc _ _ _) | refine Frame.trans1 ?_ (Frame.drew _ _) | refine Frame.trans1 ?_ (Frame.drewN _ _ _))).trans1 f5; have xb5 := XB.out.frame f5w (by simp); have bn5 := BN.out.frame f5w (by simp); have x0 := xb5.at 0 rfl; have y0 := bn5.at 0 rfl; have y1 := bn5.at 1 rfl; have y2 := bn5.at 2 rfl; have x0d : ∀ o, (w5.drew.alloc o).cell? ⟨gb, 0, none⟩ = some (.slice an' k nc') := fun o => (xb5.drew.alloc o).at 0 rfl; have x0e : ∀ o, (w5.alloc o).cell? ⟨gb, 0, none⟩ = some (.slice an' k nc') := fun o => (xb5.alloc o).at 0 rfl)
          | (refine step_append_sl _ (by rfl) (.tmp 30) (.tmp 33) 22 (by rfl) 41 3 56 _ Nd.cs Tryz.underlying22 infoNode rfl (by omega) (.slice an' k nc') (rs'.map (·.nd)) k HLM.out G' (by rfl) (SLN.out.frame0 (show Frame [] wv _ from by (repeat first | assumption | exact Frame.refl _ _ | refine Frame.trans1 ?_ (Frame.alloc _ _ _) | refine Frame.trans1 ?_ (Frame.drew _ _) | refine Frame.trans1 ?_ (Frame.drewN _ _ _)))) _ 1 1 [n'] _ (by rfl) (Blk.new _ _ _) rfl rfl nd_len nd_one (by omega) (by omega) (by omega) ?_; intro b' cap' w6 sl6 f6 hb6; have xb6 := (XB.out.frame (show Frame [] wv _ from by (repeat first | assumption | exact Frame.refl _ _ | refine Frame.trans1 ?_ (Frame.alloc _ _ _) | refine Frame.trans1 ?_ (Frame.drew _ _) | refine Frame.trans1 ?_ (Frame.drewN _ _ _))) (by simp)).frame f6 hgG; have bn6 := (BN.out.frame (show Frame [] wv _ from by (repeat first | assumption | exact Frame.refl _ _ | refine Frame.trans1 ?_ (Frame.alloc _ _ _) | refine Frame.trans1 ?_ (Frame.drew _ _) | refine Frame.trans1 ?_ (Frame.drewN _ _ _))) (by simp)).frame f6 hzG; have x0 := xb6.at 0 rfl; have y0 := bn6.at 0 rfl; have y1 := bn6.at 1 rfl; have y2 := bn6.at 2 rfl; have z0 := xb6.frozen 0))
        all_goals
          go_wp2_with fail
          go_roundw
          case rel =>
            have fv := fv0.trans1 (show Frame [] wv _ from by (repeat first | assumption | exact Frame.refl _ _ | refine Frame.trans1 ?_ (Frame.alloc _ _ _) | refine Frame.trans1 ?_ (Frame.drew _ _) | refine Frame.trans1 ?_ (Frame.drewN _ _ _)))
            exact ⟨k + 1, rs' ++ [⟨n', r.ls, r.ps, L', P'⟩], some ⟨b', 0, none⟩, cap', [b'], by omega, by go_num, by simp [HLN.out], Lib.hid (all_step hR.out hgbz (fv0.trans1 (f5w.trans1 (show Frame [] w5 _ from by (repeat first | assumption | exact Frame.refl _ _ | refine Frame.trans1 ?_ (Frame.alloc _ _ _) | refine Frame.trans1 ?_ (Frame.drew _ _) | refine Frame.trans1 ?_ (Frame.drewN _ _ _))))) (HID.out.2.1.frame (show Frame [] w5 _ from by (repeat first | assumption | exact Frame.refl _ _ | refine Frame.trans1 ?_ (Frame.alloc _ _ _) | refine Frame.trans1 ?_ (Frame.drew _ _) | refine Frame.trans1 ?_ (Frame.drewN _ _ _))) (by simp) (by simp)) (by rw [HNN.out]; exact HID.out.1) TK.out HRK.out.1 HRK.out.2 (fun x hx => Nat.le_trans (fv0.trans1 (show Frame [] wv _ from by (repeat first | assumption | exact Frame.refl _ _ | refine Frame.trans1 ?_ (Frame.alloc _ _ _) | refine Frame.trans1 ?_ (Frame.drew _ _) | refine Frame.trans1 ?_ (Frame.drewN _ _ _)))).size (HID.out.2.2.2 x hx)) sl6 f6 hb6)⟩
          case measure => simp [intOf]; omega
      · obtain rfl : k = rs.length := by omega
        have hg := hR.out.2.2.1
        have e0 := hg.at 0 rfl
        have e1 := hg.at 1 rfl
        have e2 := hg.at 2 rfl
        have hf := hR.out.2.2.2.2.2.1
        have bz := BZ.out.frame hf (by simp)
        have z0 := bz.at 0 rfl
        have z1 := bz.at 1 rfl
        have z2 := bz.at 2 rfl
        have y0 := bz.frozen 0
        have y1 := bz.frozen 1
        have y2 := bz.frozen 2
        have B := Lib.hid bz
        have HF := Lib.hid hf
        have HLN := Lib.hid hl
        clear hg bz hf p0 hl
        go_wp2_with fail
        have fe : Frame [w.heap.size] wr (((wr.setCell ⟨w.heap.size, 0, none⟩ (.slice an' rs.length nc')).setCell ⟨w.heap.size, 1, none⟩ (.slice ae' es.length ec')).setCell ⟨w.heap.size, 2, none⟩ (.int .i64 (given + 1))) := ((Frame.setCell wr _ _ (by simp)).trans1 (Frame.setCell _ _ _ (by simp))).trans1 (Frame.setCell _ _ _ (by simp))
        have hwz := HZ.out
        have fresh := hR.out.2.2.2.2.2.2.2
        refine bodyPost_ret (v := .agg #[.slice an' rs.length nc', .slice ae' es.length ec', .int .i64 (given + 1)]) ?_ rfl ⟨rs', an', nc', ae', ec', G', H', by rw [HLN.out], by rw [hR.out.1]; simp, fun r hr => ?_, ?_, ?_, (FR.out.trans1 HF.out).trans fe (by simp), ?_, fun x hx => by have := fresh x hx; omega⟩
        · have b3 := ((B.out.set 0 (.slice an' rs.length nc')).set 1 (.slice ae' es.length ec')).set 2 (.int .i64 (given + 1))
          have x0 := b3.at 0 rfl
          have x1 := b3.at 1 rfl
          have x2 := b3.at 2 rfl
          simp [results, Tryz.results36, go_sem, x0, x1, x2]
        · refine Rn.ok_frame (hR.out.2.1 r hr) fe (fun x hx hm => ?_)
          have := fresh x (by simp; exact .inr (.inr ⟨r, hr, hx⟩))
          simp at hm; omega
        · rw [HLN.out]
          exact hR.out.2.2.2.1.frame fe (fun x hx hm => by have := fresh x (by simp [hx]); simp at hm; omega)
        · exact hR.out.2.2.2.2.1.frame fe (fun x hx hm => by have := fresh x (by simp [hx]); simp at hm; omega)
        · exact (List.nodup_cons.1 hR.out.2.2.2.2.2.2.1).2
end Go.Proofs.YtjcajidgaejhoaaGreat

