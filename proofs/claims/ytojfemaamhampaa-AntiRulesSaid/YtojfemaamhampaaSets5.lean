/- Families: Sets, One. -/
import Derived.Test.YtojfemaamhampaaFam6
namespace Go.Proofs.Ytojfemaamhampaa
open Go.RowKit
set_option linter.unusedSimpArgs false
set_option linter.unusedVariables false

/-- A new row of new sets. -/
def NewSets (w : World) (f : List (List Int)) (e : Ending) (w' : World) : Prop := ∃ (a : Option Addr) (c : Nat) (vs : List SV) (G : List Nat), e = .returned (.slice a vs.length c) ∧ OV w' (.slice a vs.length c) vs G ∧ vs.map (·.l) = f ∧ (∀ s ∈ vs, s.ok (fun b => w.heap.size ≤ b) w') ∧ Frame [] w w' ∧ ∀ x ∈ G, w.heap.size ≤ x
set_option maxHeartbeats 4000000 in
set_option maxRecDepth 100000 in
theorem asets_any (v : Value) (f : List (List Int)) (w : World) (h : FV w v f) (hl : f.length ≤ 1000000) :
    Calls Try.prog 16 #[v] w (NewSets w f) := by
  obtain ⟨a, c, vs, rfl, hr, rfl⟩ := h
  have hvl : vs.length ≤ 1000000 := by simpa using hl
  have H := Lib.hid hr
  clear hr hl
  go_enter Try.func16, Try.ntmps16
  go_wp2_with fail
  go_loopw [2, 8] (fun u i wr => ∃ (k : Nat) (a' : Option Addr) (c' : Nat) (os : List SV) (G : List Nat), k ≤ vs.length ∧ os.length = k ∧ i = .int .i64 k ∧ u = .slice a' k c' ∧ Hid (OV wr (.slice a' os.length c') os G ∧ os.map (·.l) = (vs.take k).map (·.l) ∧ Frame [] w wr ∧ (∀ x ∈ G, w.heap.size ≤ x) ∧ ∀ s ∈ os, s.ok (fun b => w.heap.size ≤ b) wr)) (fun _ i _ => vs.length - (intOf i).toNat)
  case atStart => exact ⟨0, none, 0, [], [], Nat.zero_le _, rfl, rfl, rfl, by
    show _ ∧ _ ∧ _ ∧ _ ∧ _
    exact ⟨OV.nil _, by simp, by (repeat first | assumption | exact Frame.refl _ _ | refine Frame.trans1 ?_ (Frame.alloc _ _ _) | refine Frame.trans1 ?_ (Frame.drew _ _) | refine Frame.trans1 ?_ (Frame.drewN _ _ _)), by simp, by simp⟩⟩
  case round =>
    obtain ⟨k, a', c', os, G, hk, hol, rfl, rfl, hR⟩ := hrel
    rename World => wo
    subst hol
    by_cases hlt : os.length < vs.length
    · have g1 : vs[os.length]? = some vs[os.length] := by simp [hlt]
      have hms : vs[os.length] ∈ vs := List.getElem_mem _
      have Hwo := H.out.frame hR.out.2.2.1
      obtain ⟨b1, o1, rfl, q1⟩ := RF.atV Hwo.rf g1
      have OKs := Hwo.ok _ hms
      have NT := Lib.hid (take_one' g1)
      generalize vs[os.length] = s at *
      have HOKs := Lib.hid OKs
      have CL := Lib.hid (cloneR s.a s.c s.l wo OKs.rd OKs.len)
      clear g1 hms Hwo OKs
      go_wp2_with fail
      refine CL.out.mono ?_
      rintro e w2 ⟨a3, c3, H3, rfl, s3, f3, g3⟩
      have S3 := Lib.hid s3
      have G3 := Lib.hid g3
      have F3 := Lib.hid f3
      have OS : Hid (OV w2 (.slice a' os.length c') os G) := hR.out.1.frame0 f3
      have KT : Hid (SV.ok (· ∉ G) w2 ⟨a3, c3, s.l⟩) := fresh_sv S3.out HOKs.out.len G3.out fun x hx => hR.out.1.sl.lt x hx
      have KI : Hid (SV.ok (· ∈ H3) w2 ⟨a3, c3, s.l⟩) := fresh_in S3.out HOKs.out.len
      clear s3 f3 g3
      go_wp2_with (at_builtin; refine wpList_append_rf rfl (.tmp 12) (.tmp 15) 26 rfl 22 1 24 _ encV Try.underlying26 infoInts rfl (by omega) (.slice a' os.length c') os os.length rfl G rfl (OS.out.sl.frame0 (by (repeat first | assumption | exact Frame.refl _ _ | refine Frame.trans1 ?_ (Frame.alloc _ _ _) | refine Frame.trans1 ?_ (Frame.drew _ _) | refine Frame.trans1 ?_ (Frame.drewN _ _ _)))) (fun y => y = _) _ 1 1 [⟨a3, c3, s.l⟩] rfl (rf_one (Blk.new _ _ _) _ rfl) rfl encV_len encV_one (os.length + 1) rfl (by omega) (by omega) ?_; intro a4 cap4 w4 G4 sl4 f4 hG4; have f4 := (show Frame G w2 _ from by (repeat first | assumption | exact Frame.refl _ _ | refine Frame.trans1 ?_ (Frame.alloc _ _ _) | refine Frame.trans1 ?_ (Frame.drew _ _) | refine Frame.trans1 ?_ (Frame.drewN _ _ _))).trans1 f4; have hG4 := fun x hx => (hG4 x hx).imp id (fun h => Nat.le_trans (show w2.heap.size ≤ (w2.alloc (.cells #[.slice a3 s.l.length c3] 22)).heap.size from (Frame.alloc [] w2 _).size) h); have R4 := Lib.hid (And.intro (OS.out.push KT.out sl4 f4 hG4) (And.intro f4 hG4)); clear sl4 f4 hG4)
      go_roundw
      case rel => exact ⟨os.length + 1, a4, cap4, os ++ [⟨a3, c3, s.l⟩], G4, by omega, by simp, by first | rfl | go_num, rfl, by
        show _ ∧ _ ∧ _ ∧ _ ∧ _
        rw [NT.out]
        refine ⟨by simpa using R4.out.1, by simp [hR.out.2.1], ?_, ?_, ?_⟩
        · exact (hR.out.2.2.1.trans1 F3.out).trans R4.out.2.1 (fun x hx => .inr (hR.out.2.2.2.1 x hx))
        · intro x hx
          rcases R4.out.2.2 x hx with h | h
          · exact hR.out.2.2.2.1 x h
          · have h1 := hR.out.2.2.1.size
            have h2 := F3.out.size
            omega
        · have h1 := hR.out.2.2.1.size
          intro t ht
          have hk : t.ok (fun b => b ∉ G ∧ w.heap.size ≤ b) w2 := by
            rcases List.mem_append.1 ht with h | h
            · have k1 := (hR.out.1.ok t h).frame F3.out (by simp)
              have k2 := (hR.out.2.2.2.2 t h).frame F3.out (by simp)
              exact ⟨k1.rd, k1.len, fun hn b off e => ⟨k1.at_ hn b off e, k2.at_ hn b off e⟩⟩
            · obtain rfl := List.mem_singleton.1 h
              exact ⟨KT.out.rd, KT.out.len, fun hn b off e => ⟨KT.out.at_ hn b off e, by
                have := G3.out b (KI.out.at_ hn b off e)
                omega⟩⟩
          exact (hk.frame R4.out.2.1 fun b hb => hb.1).mono fun b hb => hb.2⟩
      case measure => first | (simp [intOf]; done) | (simp [intOf]; omega)
    · have hR' := hR.out
      rw [show List.take os.length vs = vs from List.take_of_length_le (by omega)] at hR'
      have HR := Lib.hid hR'
      clear hR' hR
      go_wp2_with fail
      go_ret
      obtain ⟨h1, h2, h3, h4, h5⟩ := HR.out
      exact ⟨a', c', os, G, rfl, h1, h2, h5, h3, h4⟩
theorem aone_any (w : World) : Calls Try.prog 24 #[] w fun e w' => ∃ v, e = .returned v ∧ FV w' v [[]] ∧ Frame [] w w' := by
  go_enter Try.func24, Try.ntmps24
  go_wp2_with fail
  refine bodyPost_ret (results_fam1 rfl _ _ _ _ rfl (((Blk.new w 30 #[.slice (some ⟨w.heap.size + 1 + 1, 0, none⟩) 1 1]).alloc _).alloc _)) rfl ?_
  refine ⟨_, rfl, ⟨some ⟨w.heap.size + 1 + 1, 0, none⟩, 1, [⟨some ⟨w.heap.size + 1, 0, none⟩, 0, []⟩], rfl, ⟨?_, fun s hs => ?_⟩, rfl⟩, by (repeat first | assumption | exact Frame.refl _ _ | refine Frame.trans1 ?_ (Frame.alloc _ _ _) | refine Frame.trans1 ?_ (Frame.drew _ _) | refine Frame.trans1 ?_ (Frame.drewN _ _ _))⟩
  · have B : Blk (((w.alloc (.cells #[.slice (some ⟨w.heap.size + 1 + 1, 0, none⟩) 1 1] 30)).alloc (.cells #[] 3)).alloc (.cells #[.slice (some ⟨w.heap.size + 1, 0, none⟩) 0 0] 22)) (w.heap.size + 1 + 1) 22 #[.slice (some ⟨w.heap.size + 1, 0, none⟩) 0 0] := Blk.fresh (by simp)
    exact (rf_one B (⟨some ⟨w.heap.size + 1, 0, none⟩, 0, []⟩ : SV) rfl).mono fun b hb => by subst hb; exact B.lt
  · obtain rfl := List.mem_singleton.1 hs
    exact ⟨.inl rfl, by simp, fun h => absurd rfl h⟩
end Go.Proofs.Ytojfemaamhampaa
