/- anti.within. -/
import Derived.Test.YtojfemaamhampaaSets5
namespace Go.Proofs.Ytojfemaamhampaa
open Go.RowKit
set_option linter.unusedSimpArgs false
set_option linter.unusedVariables false

/-- A family's value, all of it in blocks of U. -/
def FVU (U : Nat → Prop) (w : World) (v : Value) (f : List (List Int)) : Prop := ∃ (a : Option Addr) (c : Nat) (vs : List SV), v = .agg #[.slice a vs.length c] ∧ RF (fun b => b < w.heap.size ∧ U b) w 1 encV a vs ∧ (∀ s ∈ vs, s.ok U w) ∧ vs.map (·.l) = f
theorem FVU.frame {U : Nat → Prop} {w w' : World} {v : Value} {f : List (List Int)} {S : List Nat} (h : FVU U w v f) (k : Frame S w w') (hS : ∀ b, U b → b ∉ S) : FVU U w' v f := by
  obtain ⟨a, c, vs, h1, h2, h3, h4⟩ := h
  exact ⟨a, c, vs, h1, (h2.frame k fun b hb => hS b hb.2).mono fun b hb => ⟨Nat.lt_of_lt_of_le hb.1 k.size, hb.2⟩, fun s hs => (h3 s hs).frame k hS, h4⟩
theorem FVU.mono {U V : Nat → Prop} {w : World} {v : Value} {f : List (List Int)} (h : FVU U w v f) (hU : ∀ b, U b → V b) : FVU V w v f := by
  obtain ⟨a, c, vs, h1, h2, h3, h4⟩ := h
  exact ⟨a, c, vs, h1, h2.mono fun b hb => ⟨hb.1, hU b hb.2⟩, fun s hs => (h3 s hs).mono hU, h4⟩
theorem FVU.fv {U : Nat → Prop} {w : World} {v : Value} {f : List (List Int)} (h : FVU U w v f) : FV w v f := by
  obtain ⟨a, c, vs, h1, h2, h3, h4⟩ := h
  exact ⟨a, c, vs, h1, ⟨h2.mono fun b hb => hb.1, fun s hs => (h3 s hs).mono fun _ _ => trivial⟩, h4⟩
theorem SV.ok.old {U : Nat → Prop} {w : World} {s : SV} (h : s.ok U w) : s.ok (fun b => U b ∧ b < w.heap.size) w := by
  refine ⟨h.rd, h.len, fun hn b off e => ⟨h.at_ hn b off e, ?_⟩⟩
  rcases h.rd with h2 | ⟨b', off', h3, h4, _⟩
  · exact absurd h2 hn
  · rw [e] at h3
    have h5 := congrArg (fun o => o.map Addr.block) h3
    have h5 : b = b' := by simpa using h5
    omega

set_option maxHeartbeats 4000000 in
set_option maxRecDepth 100000 in
theorem within_ok (V : Nat → Prop) (v : Value) (vs : List SV) (G : List Nat) (budget : Int) (f : List (List Int)) (w : World) (h : OV w v vs G) (hup : ∀ s ∈ vs, Up s.l) (hl : vs.length ≤ 1000000) (hf : Fam (vs.map (·.l)) f) (hV : ∀ s ∈ vs, s.ok V w) (hN : ∀ b, w.heap.size ≤ b → V b) (hG : ∀ x ∈ G, x < w.heap.size)
    (h1 : (f.length : Int) ≤ budget) (h2 : f.length ≤ 5000) :
    Calls Try.prog 44 #[v, .int .i64 budget] w fun e w' => ∃ v', e = .returned v' ∧ FVU (fun b => V b ∧ b ≠ w.heap.size) w' v' f ∧ Frame G w w' := by
  have A := Lib.hid (fun (w' : World) (k : Frame [] w w') => aleast_any v vs G w' (h.sl.frame0 k) (fun s hs => (h.ok s hs).frame k (by simp)) hup hl)
  have HO := Lib.hid h
  have HF := Lib.hid hf
  have HV := Lib.hid hV
  have HN := Lib.hid hN
  have HG := Lib.hid hG
  clear h hup hf hV hN hG
  go_enter Try.func44, Try.ntmps44
  go_wp2_with fail
  refine (A.out _ (by (repeat first | assumption | exact Frame.refl _ _ | refine Frame.trans1 ?_ (Frame.alloc _ _ _) | refine Frame.trans1 ?_ (Frame.drew _ _) | refine Frame.trans1 ?_ (Frame.drewN _ _ _)))).mono ?_
  rintro e w1 ⟨a1, c1, out, G1, rfl, s1, hsub, hfam, f1, g1⟩
  obtain rfl := HF.out.ext hfam
  have BX := (Blk.new w 30 #[.slice none 0 0]).frame f1 (fun hm => by have := HG.out _ hm; omega)
  have bx := BX.at 0 rfl
  have bf := BX.frozen 0
  have BX := Lib.hid BX
  rw [List.length_map] at h1 h2
  have hd1 : decide ((out.length : Int) > budget) = false := decide_eq_false (by omega)
  have hd2 : decide ((out.length : Int) > 5000) = false := decide_eq_false (by omega)
  have hF : Hid (Frame [w.heap.size] w1 (w1.setCell ⟨w.heap.size, 0, none⟩ (.slice a1 out.length c1))) := Frame.setCell _ _ _ (by simp)
  have FG : Hid (Frame G w w1) := (Frame.alloc G w _).trans1 f1
  have RR : Hid (FVU (fun b => V b ∧ b ≠ w.heap.size) w1 (.agg #[.slice a1 out.length c1]) (out.map (·.l))) := by
    refine ⟨a1, c1, out, rfl, s1.rf encV_len fun b hb => ⟨s1.lt b hb, ?_, ?_⟩, fun s hs => ?_, rfl⟩
    · have := g1 b hb
      simp at this
      exact HN.out b (by omega)
    · have := g1 b hb
      simp at this
      omega
    · have k1 := HO.out.ok s (hsub s hs)
      have k2 := (HV.out s (hsub s hs)).old
      have k3 : s.ok (fun b => b ∉ G ∧ V b ∧ b < w.heap.size) w := ⟨k1.rd, k1.len, fun hn b off e => ⟨k1.at_ hn b off e, k2.at_ hn b off e⟩⟩
      exact (k3.frame FG.out fun b hb => hb.1).mono fun b hb => ⟨hb.2.1, by omega⟩
  clear s1 hsub hfam f1 g1
  go_wp2_with fail
  refine bodyPost_ret (results_fam1 rfl _ _ _ _ rfl (BX.out.set 0 _)) rfl ?_
  exact ⟨_, rfl, RR.out.frame hF.out fun b hb h => hb.2 (by simpa using h), FG.out.trans hF.out (by simp)⟩
set_option maxHeartbeats 4000000 in
set_option maxRecDepth 100000 in
theorem within_bail (v : Value) (vs : List SV) (G : List Nat) (budget : Int) (f : List (List Int)) (w : World) (h : OV w v vs G) (hup : ∀ s ∈ vs, Up s.l) (hl : vs.length ≤ 1000000) (hf : Fam (vs.map (·.l)) f)
    (h1 : ¬ ((f.length : Int) ≤ budget ∧ f.length ≤ 5000)) :
    Calls Try.prog 44 #[v, .int .i64 budget] w fun e w' => ∃ chain, e = .panicked chain ∧ bailing w 10 f.length chain w' ∧ Frame G w w' := by
  have A := Lib.hid (fun (w' : World) (k : Frame [] w w') => aleast_any v vs G w' (h.sl.frame0 k) (fun s hs => (h.ok s hs).frame k (by simp)) hup hl)
  have HF := Lib.hid hf
  clear h hup hf
  have hb : Hid (∀ (n : Int) (chain : List PanicEntry) (w1 w2 : World), w.heap.size ≤ w1.heap.size → bailing w1 10 n chain w2 → bailing w 10 n chain w2) := fun n chain w1 w2 h ⟨nb, e, h2, h3⟩ => ⟨nb, e, Nat.le_trans h h2, h3⟩
  by_cases hc : (f.length : Int) > budget
  · go_enter Try.func44, Try.ntmps44
    go_wp2_with fail
    refine (A.out _ (by (repeat first | assumption | exact Frame.refl _ _ | refine Frame.trans1 ?_ (Frame.alloc _ _ _) | refine Frame.trans1 ?_ (Frame.drew _ _) | refine Frame.trans1 ?_ (Frame.drewN _ _ _)))).mono ?_
    rintro e w1 ⟨a1, c1, out, G1, rfl, s1, hsub, hfam, f1, g1⟩
    have hlen : f.length = out.length := by rw [HF.out.ext hfam]; simp
    have hd1 : decide ((out.length : Int) > budget) = true := decide_eq_true (by omega)
    have FG : Hid (Frame G w w1) := (Frame.alloc G w _).trans1 f1
    have HL := Lib.hid hlen
    clear s1 hsub hfam f1 g1 h1 hc hlen
    go_wp2_with fail
    refine (out_any 10 out.length w1).mono ?_
    rintro e w2 ⟨chain, rfl, hbl, f2⟩
    refine ⟨rfl, chain, rfl, ?_, FG.out.trans0 f2⟩
    rw [HL.out]
    exact hb.out _ _ _ _ FG.out.size hbl
  · have hc2 : 5000 < f.length := by omega
    go_enter Try.func44, Try.ntmps44
    go_wp2_with fail
    refine (A.out _ (by (repeat first | assumption | exact Frame.refl _ _ | refine Frame.trans1 ?_ (Frame.alloc _ _ _) | refine Frame.trans1 ?_ (Frame.drew _ _) | refine Frame.trans1 ?_ (Frame.drewN _ _ _)))).mono ?_
    rintro e w1 ⟨a1, c1, out, G1, rfl, s1, hsub, hfam, f1, g1⟩
    have hlen : f.length = out.length := by rw [HF.out.ext hfam]; simp
    have hd1 : decide ((out.length : Int) > budget) = false := decide_eq_false (by omega)
    have hd2 : decide ((out.length : Int) > 5000) = true := decide_eq_true (by omega)
    have FG : Hid (Frame G w w1) := (Frame.alloc G w _).trans1 f1
    have HL := Lib.hid hlen
    clear s1 hsub hfam f1 g1 h1 hc hlen hc2
    go_wp2_with fail
    refine (out_any 10 out.length w1).mono ?_
    rintro e w2 ⟨chain, rfl, hbl, f2⟩
    refine ⟨rfl, chain, rfl, ?_, FG.out.trans0 f2⟩
    rw [HL.out]
    exact hb.out _ _ _ _ FG.out.size hbl
end Go.Proofs.Ytojfemaamhampaa
