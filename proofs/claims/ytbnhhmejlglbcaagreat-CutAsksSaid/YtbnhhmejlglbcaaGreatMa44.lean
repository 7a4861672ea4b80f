/- A copy of a copy is the copy; cut twice, or at once: pure. cut.Copy; cut.Restrict where all is told. What is no gate: Truth, Restrict, Copy, Empty, Least, both sides. -/
import Derived.Test.YtbnhhmejlglbcaaGreatMa43
import Derived.Test.YtbnhhmejlglbcaaGreatMa24
import Derived.Test.YtbnhhmejlglbcaaGreatMa26
import Derived.Test.YtbnhhmejlglbcaaGreatMa40
import Derived.Test.YtbnhhmejlglbcaaGreatMa42
import Derived.Test.YtbnhhmejlglbcaaGreatMa15
namespace Go.Proofs.YtbnhhmejlglbcaaGreat
open Go.RowKit
set_option linter.unusedSimpArgs false
set_option linter.unusedVariables false

theorem two_up : ∀ m : Nat, ((List.range (m + 2)).filter fun j => decide (2 ≤ j)).length = m
  | 0 => by decide
  | m + 1 => by
    rw [List.range_succ, List.filter_append, List.length_append, two_up m]
    simp
theorem two_low {n : Nat} (h : n ≤ 1) : ((List.range (n + 1)).filter fun j => decide (2 ≤ j)) = [] := by
  rw [List.filter_eq_nil_iff]
  intro j hj
  have := List.mem_range.mp hj
  simp; omega
/-- Where the root is, and that all of the copy is of it. -/
theorem copy_root {T : Int} {l : List Gt} {s : CutSt} {root : Nat} (hI : Inv l) (h : CopyInv T l s (reach l root)) : 0 ≤ s.bm root ∧ s.bm root < s.l.length ∧
    (2 ≤ root → s.bm root = s.l.length - 1) ∧ (root ≤ 1 → s.bm root = root ∧ s.l.length = 2) ∧ (∀ j ∈ reach l root, 2 ≤ j → (s.bm j).toNat ∈ reach s.l (s.bm root).toNat) := by
  have hm : root ∈ reach l root := mem_reach.mpr ⟨Nat.le_refl root, reachM_root l root⟩
  have hn := h.ci.nums root hm
  refine ⟨hn.1, hn.2, fun h2 => ?_, fun h1 => ?_, ?_⟩
  · have hb := (h.b2 root hm h2).1
    rcases Int.lt_or_le (s.bm root) (s.l.length - 1) with hlt | hge
    · exfalso
      obtain ⟨j, hj, _, hbj⟩ := h.onto (s.l.length - 1) (by omega) (by omega)
      have hjr := (mem_reach.mp hj).1
      rcases Nat.lt_or_eq_of_le hjr with e | e
      · have := h.mono j hj root hm e; omega
      · rw [e] at hbj; omega
    · omega
  · refine ⟨h.b0 root hm h1, ?_⟩
    have : (reach l root).filter (fun j => decide (2 ≤ j)) = [] := by
      rw [List.filter_eq_nil_iff]
      intro j hj
      have := (mem_reach.mp hj).1
      simp; omega
    rw [h.cnt, this]; rfl
  · have hp : ∀ d j : Nat, root - j = d → j ∈ reach l root → 2 ≤ j → (s.bm j).toNat ∈ reach s.l (s.bm root).toNat := by
      intro d
      induction d using Nat.strongRecOn with
      | ind d ih =>
        intro j hd hj h2
        by_cases e : j = root
        · rw [e]; exact mem_reach.mpr ⟨Nat.le_refl _, reachM_root _ _⟩
        obtain ⟨p, hp, hjp, g, hg, hk⟩ := reach_parent hI hj e
        have hpr := (mem_reach.mp hp).1
        have hi := ih (root - p) (by omega) p rfl hp (by omega)
        obtain ⟨hb1, g', hg', hat⟩ := h.b2 p hp (by omega)
        rw [hg] at hg'
        cases hg'
        have hi' := mem_reach.mp hi
        have hkids := reachM_kids h.ci.inv hi'.1 hat hi'.2
        have hbj := (h.b2 j hj h2).1
        have hjr := (mem_reach.mp hj).1
        have hmr : (s.bm j).toNat ≤ (s.bm root).toNat := by have := h.mono j hj root hm (by omega); omega
        refine mem_reach.mpr ⟨hmr, ?_⟩
        rw [imgG_k] at hkids
        rcases hk with ⟨h45, hab⟩ | ⟨h6, ha⟩
        · have hh := hkids.1 h45
          unfold imgG at hh
          rw [if_neg (by omega), if_neg (by omega)] at hh
          rcases hab with e | e
          · rw [e]; exact hh.1
          · rw [e]; exact hh.2
        · have hh := hkids.2 h6
          unfold imgG at hh
          rw [if_neg (by omega), if_pos h6] at hh
          rw [ha]; exact hh
    exact fun j hj h2 => hp _ j rfl hj h2
/-- A copy of a copy: as many gates, and the same number. -/
theorem copy_copy {T T' : Int} {l : List Gt} {s s' : CutSt} {root n : Nat} (hI : Inv l) (h : CopyInv T l s (reach l root)) (hn : s.bm root = n) (h' : CopyInv T' s.l s' (reach s.l n)) : s'.l.length = s.l.length ∧ s'.bm n = n := by
  obtain ⟨c1, c2, c3, c4, c5⟩ := copy_root hI h
  obtain ⟨_, _, d3, d4, _⟩ := copy_root h.ci.inv h'
  rw [hn, Int.toNat_natCast] at c5
  rcases Nat.lt_or_ge root 2 with hr | hr
  · obtain ⟨e1, e2⟩ := c4 (by omega)
    have hn1 : n ≤ 1 := by omega
    obtain ⟨g1, g2⟩ := d4 hn1
    exact ⟨by omega, g1⟩
  · have e1 := c3 hr
    have h2n : 2 ≤ n := by
      have hm : root ∈ reach l root := mem_reach.mpr ⟨Nat.le_refl root, reachM_root l root⟩
      have := (h.b2 root hm hr).1
      omega
    have hlen : s'.l.length = s.l.length := by
      rw [h'.cnt]
      have : (reach s.l n).filter (fun j => decide (2 ≤ j)) = (List.range (n + 1)).filter (fun j => decide (2 ≤ j)) := by
        unfold reach
        rw [List.filter_filter]
        refine List.filter_congr fun j hj => ?_
        have hj := List.mem_range.mp hj
        by_cases h2 : 2 ≤ j
        · obtain ⟨i, hi, hi2, hb⟩ := h.onto j h2 (by omega)
          have := c5 i hi hi2
          rw [hb, Int.toNat_natCast] at this
          rw [(mem_reach.mp this).2]; simp
        · simp [h2]
      rw [this]
      obtain ⟨m, rfl⟩ : ∃ m, n = m + 1 := ⟨n - 1, by omega⟩
      rw [two_up m]
      omega
    refine ⟨hlen, ?_⟩
    rw [d3 h2n, hlen]; omega
/-- What is dead is dead. -/
theorem truth_cut {dead : Int → Bool} {l : List Gt} (hI : Inv l) {root : Nat} (hr : root < l.length) (h3 : ∀ g ∈ l, g.k = 3 → 1 ≤ g.a) {T : Int} (hT : ((reach l root).length : Int) + 3 ≤ T) {n : Nat} (hn : (cutV dead l (reach l root) (T - 2)).bm root = n) (ts : List Int) :
    truth (cutV dead l (reach l root) (T - 2)).l n ts = worth rgB (killed rgB (fun t => decide (t ∈ ts)) dead) l root := by
  have hm : root ∈ reach l root := mem_reach.mpr ⟨Nat.le_refl root, reachM_root l root⟩
  have := cutV_worth (W := fun t => decide (t ∈ ts)) (dead := dead) hI (reach_closed hI hr) h3 hT (reach l root).length (Nat.le_refl _) root (by rw [List.take_length]; exact hm)
  rw [List.take_length, hn, Int.toNat_natCast] at this
  exact this
theorem worth_cut {W : Int → Bool} {dead : Int → Bool} {l : List Gt} (hI : Inv l) {root : Nat} (hr : root < l.length) (h3 : ∀ g ∈ l, g.k = 3 → 1 ≤ g.a) {T : Int} (hT : ((reach l root).length : Int) + 3 ≤ T) {n : Nat} (hn : (cutV dead l (reach l root) (T - 2)).bm root = n) :
    worth rgB W (cutV dead l (reach l root) (T - 2)).l n = worth rgB (killed rgB W dead) l root := by
  have hm : root ∈ reach l root := mem_reach.mpr ⟨Nat.le_refl root, reachM_root l root⟩
  have := cutV_worth (W := W) (dead := dead) hI (reach_closed hI hr) h3 hT (reach l root).length (Nat.le_refl _) root (by rw [List.take_length]; exact hm)
  rw [List.take_length, hn, Int.toNat_natCast] at this
  exact this
theorem killed_twice (W : Int → Bool) (a b : List Int) : killed rgB (killed rgB W fun t => decide (t ∈ b)) (fun t => decide (t ∈ a)) = killed rgB W fun t => decide (t ∈ a ++ b) := by
  funext t
  unfold killed
  by_cases h1 : t ∈ a <;> by_cases h2 : t ∈ b <;> simp [h1, h2]
theorem killed_none (W : Int → Bool) : (killed rgB W fun t => decide (t ∈ ([] : List Int))) = W := by
  funext t
  simp [killed]
/-- What a cut circuit's gates are. -/
theorem nrm_three {l : List Gt} (hI : Inv l) (hN : Nrm l) : ∀ g ∈ l, g.k = 3 → 1 ≤ g.a := by
  intro g hg h3
  obtain ⟨i, hi, rfl⟩ := List.mem_iff_getElem.mp hg
  have h8 : l[i]? = some l[i] := List.getElem?_eq_getElem hi
  rcases Nat.lt_or_ge i 2 with h2 | h2
  · obtain ⟨m, hm⟩ := hI.good
    have h9 : (init ++ m)[i]? = some l[i] := by rw [← hm]; exact h8
    have := init_k h9 h2
    omega
  · exact ((hN i _ h8 h2).2.1 h3).1
/-- A circuit cut, of those that are made: all that is told of it. -/
structure CutOk (dead : Int → Bool) (l : List Gt) (root : Nat) (s : CutSt) (n : Nat) : Prop where
  e : s.e = 0
  bm : s.bm root = n
  lt : n < s.l.length
  inv : Inv s.l
  nrm : Nrm s.l
  len : s.l.length ≤ root + 3
  worth : ∀ W, worth rgB W s.l n = Go.Proofs.YtbnhhmejlglbcaaGreat.worth rgB (killed rgB W dead) l root
theorem cut_ok (dead : Int → Bool) {l : List Gt} (hI : Inv l) (hN : Nrm l) {root : Nat} (hr : root < l.length) (h9 : l.length ≤ 900) : ∃ n, CutOk dead l root (cutV dead l (reach l root) (1000 - 2)) n := by
  have h3 := nrm_three hI hN
  have hl := reach_len l root
  have ci := cutV_ok (dead := dead) (reach_closed hI hr) h3 (T := 1000) (by omega) (reach l root).length (Nat.le_refl _)
  rw [List.take_length] at ci
  have hm : root ∈ reach l root := mem_reach.mpr ⟨Nat.le_refl root, reachM_root l root⟩
  have hn := ci.nums root hm
  obtain ⟨n, hbm⟩ : ∃ n : Nat, (cutV dead l (reach l root) (1000 - 2)).bm root = n := ⟨((cutV dead l (reach l root) (1000 - 2)).bm root).toNat, by omega⟩
  exact ⟨n, ci.e, hbm, by omega, ci.inv, cutV_nrm _ _ _ _, by have := ci.len; omega, fun W => worth_cut hI hr h3 (by omega) hbm⟩
theorem copy_ok {dead : Int → Bool} (hd : ∀ t, dead t = false) {l : List Gt} (hI : Inv l) (hN : Nrm l) {root : Nat} (hr : root < l.length) (h9 : l.length ≤ 900) : CopyInv 1000 l (cutV dead l (reach l root) (1000 - 2)) (reach l root) := by
  have hl := reach_len l root
  have := copyInv_all hd hI hN (reach_closed hI hr) (reach_up l root) (T := 1000) (by omega) (reach l root).length (Nat.le_refl _)
  rwa [List.take_length] at this
end Go.Proofs.YtbnhhmejlglbcaaGreat

namespace Go.Proofs.YtbnhhmejlglbcaaGreat
open Go.RowKit
set_option linter.unusedSimpArgs false
set_option linter.unusedVariables false

set_option maxHeartbeats 4000000 in
set_option maxRecDepth 100000 in
theorem copy_any (pb : Nat) (F : List Nat) (l : List Gt) (left : Int) (hI : Inv l) (root : Nat) (hr : root < l.length) (hlen : l.length ≤ 100000) (budget : Int) (w : World) (h : St w pb F l left) :
    Calls Tryz.prog 37 #[.pointer (some ⟨pb, 0, none⟩), .int .i64 root, .int .i64 budget] w (RestrEnd (cutV (fun t => decide (t ∈ ([] : List Int))) l (reach l root) (room budget)) root w) := by
  have hR := restrict_any pb F l left hI root hr hlen budget none 0 [] (by simp) w h (.inl rfl) (by simp)
  generalize cutV (fun t => decide (t ∈ ([] : List Int))) l (reach l root) (room budget) = fin at *
  have HR := Lib.hid hR
  clear hR h hI
  by_cases he : fin.e = 0
  · have HE := Lib.hid he
    clear he
    go_enter Tryz.func37, Tryz.ntmps37
    go_wp2_with fail
    refine HR.out.mono ?_
    rintro e w' ⟨h1, h2, f⟩
    obtain ⟨qb, Q, rfl, s, q⟩ := h1 HE.out
    have P := Lib.hid (And.intro s (And.intro q f))
    clear h1 h2 s q f HR
    go_wp2_with fail
    refine bodyPost_ret (v := .tuple #[.pointer (some ⟨qb, 0, none⟩), .int .i64 (fin.bm root), .int .i64 0]) (by simp [results, Tryz.results37, go_sem]) rfl ?_
    exact ⟨fun _ => ⟨qb, Q, rfl, P.out.1, P.out.2.1⟩, fun h => absurd HE.out h, P.out.2.2⟩
  · have HE := Lib.hid he
    clear he
    go_enter Tryz.func37, Tryz.ntmps37
    go_wp2_with fail
    refine HR.out.mono ?_
    rintro e w' ⟨h1, h2, f⟩
    obtain rfl := h2 HE.out
    have P := Lib.hid f
    clear h1 h2 f HR
    go_wp2_with fail
    refine bodyPost_ret (v := .tuple #[.pointer none, .int .i64 0, .int .i64 fin.e]) (by simp [results, Tryz.results37, go_sem]) rfl ?_
    exact ⟨fun h => absurd h HE.out, fun _ => rfl, P.out⟩
/-- A circuit that was made of another one, with a gate's number. -/
def MadeEnd (l : List Gt) (left : Int) (n : Nat) (w : World) (e : Ending) (w' : World) : Prop :=
  ∃ qb Q, e = .returned (.tuple #[.pointer (some ⟨qb, 0, none⟩), .int .i64 n, .int .i64 0]) ∧ St w' qb Q l left ∧ (∀ x ∈ Q, w.heap.size ≤ x) ∧ Frame [] w w'
theorem restrict_made (pb : Nat) (F : List Nat) (l : List Gt) (left : Int) (hI : Inv l) (root : Nat) (hr : root < l.length) (hlen : l.length ≤ 100000)
    (ta : Option Addr) (tc : Nat) (ts : List Int) (htl : ts.length ≤ 1000000) (w : World) (h : St w pb F l left) (ht : RdI w ta ts) (hta : ts ≠ [] → ∀ b off, ta = some ⟨b, off, none⟩ → b < w.heap.size)
    {fin : CutSt} (hf : cutV (fun t => decide (t ∈ ts)) l (reach l root) (1000 - 2) = fin) {n : Nat} (ok : CutOk (fun t => decide (t ∈ ts)) l root fin n) :
    Calls Tryz.prog 32 #[.pointer (some ⟨pb, 0, none⟩), .int .i64 root, .slice ta ts.length tc, .int .i64 1000] w (MadeEnd fin.l fin.left n w) := by
  have hR := restrict_any pb F l left hI root hr hlen 1000 ta tc ts htl w h ht hta
  rw [show room 1000 = 1000 - 2 from by decide, hf] at hR
  refine hR.mono ?_
  rintro e w' ⟨h1, -, f⟩
  obtain ⟨qb, Q, rfl, s, q⟩ := h1 ok.e
  exact ⟨qb, Q, by rw [ok.bm], s, q, f⟩
theorem copy_made (pb : Nat) (F : List Nat) (l : List Gt) (left : Int) (hI : Inv l) (root : Nat) (hr : root < l.length) (hlen : l.length ≤ 100000) (w : World) (h : St w pb F l left)
    {fin : CutSt} (hf : cutV (fun t => decide (t ∈ ([] : List Int))) l (reach l root) (1000 - 2) = fin) {n : Nat} (ok : CutOk (fun t => decide (t ∈ ([] : List Int))) l root fin n) :
    Calls Tryz.prog 37 #[.pointer (some ⟨pb, 0, none⟩), .int .i64 root, .int .i64 1000] w (MadeEnd fin.l fin.left n w) := by
  have hR := copy_any pb F l left hI root hr hlen 1000 w h
  rw [show room 1000 = 1000 - 2 from by decide, hf] at hR
  refine hR.mono ?_
  rintro e w' ⟨h1, -, f⟩
  obtain ⟨qb, Q, rfl, s, q⟩ := h1 ok.e
  exact ⟨qb, Q, by rw [ok.bm], s, q, f⟩
end Go.Proofs.YtbnhhmejlglbcaaGreat

namespace Go.Proofs.YtbnhhmejlglbcaaGreat
open Go.RowKit
set_option linter.unusedSimpArgs false
set_option linter.unusedVariables false

/-- No gate, at whatever semiring: an error. -/
def ArgEnd (w : World) (e : Ending) (w' : World) : Prop := e = .returned (.tuple #[.agg #[.int .i64 0, .bool false, .slice none 0 0, .int .i64 0, .float .f64 0], .int .i64 1]) ∧ Frame [] w w'
set_option maxRecDepth 100000 in
set_option maxHeartbeats 4000000 in
theorem evWithout_none {V : Type} {n : Int} {R : Rg V} {Is : World → Value → V → Prop} {Pl Tm : V → V → Prop} {Sr : V → Prop} (hS : SemOk n R Is Pl Tm Sr)
    (pb : Nat) (F : List Nat) (l : List Gt) (left : Int) (root : Int) (hr : notG l.length root = true) (wa : Option Addr) (wn wc : Nat) (ta : Option Addr) (tn tc : Nat) (w : World) (h : St w pb F l left) :
    Calls Tryz.prog 17 #[.pointer (some ⟨pb, 0, none⟩), .int .i64 root, .int .i64 n, .slice wa wn wc, .slice ta tn tc] w (ArgEnd w) := by
  have hst := fun (w : World) (a : Addr) (q : Nat) (m : Mode) => run_store Tryz.prog w a (.float .f64 q) m rfl
  have S := Lib.hid hS
  have H := Lib.hid h
  have HR := Lib.hid hr
  clear hS h hr
  go_enter Tryz.func17, Tryz.ntmps17
  have hb10 := Blk.new w 37 #[.int .i64 0, .bool false, .slice none 0 0, .int .i64 0, .float .f64 0]
  have B0 := Lib.hid hb10
  have FA := Lib.hid (Frame.alloc [] w (.cells #[.int .i64 0, .bool false, .slice none 0 0, .int .i64 0, .float .f64 0] 37))
  clear hb10
  go_wp2_with fail
  refine (S.out.zero _).mono ?_
  rintro e w1 ⟨z, rfl, iz, f1⟩
  obtain ⟨zi, za, zl, zc, zv, zf, rfl⟩ := S.out.form iz
  have B1 := Lib.hid ((B0.out.frame f1 (by simp)).alloc (.cells #[.int .i64 n, .bool zi, .slice za zl zc, .int .i64 zv, .float .f64 zf] 37))
  have F1 := Lib.hid ((FA.out.trans1 f1).trans1 (Frame.alloc [] w1 (.cells #[.int .i64 n, .bool zi, .slice za zl zc, .int .i64 zv, .float .f64 zf] 37)))
  clear f1 iz B0 FA
  go_upto_region 4 with fail
  generalize w1.alloc (.cells #[.int .i64 n, .bool zi, .slice za zl zc, .int .i64 zv, .float .f64 zf] 37) = w2 at *
  have GA := Lib.hid (gate_get_none (some ⟨pb, 0, none⟩) l.length root w2 (H.out.frame0 F1.out).lens HR.out)
  go_wp2_with fail
  refine GA.out.mono ?_
  rintro e w3 ⟨rfl, f3⟩
  have B3 := Lib.hid ((B1.out.frame f3 (by simp)).alloc (.cells #[.int .i64 0, .int .i64 0, .int .i64 0] 112))
  have F3 := Lib.hid ((F1.out.trans1 f3).trans1 (Frame.alloc [] w3 (.cells #[.int .i64 0, .int .i64 0, .int .i64 0] 112)))
  clear f3 GA B1 F1
  go_upto_region 6 with fail
  generalize w3.alloc (.cells #[.int .i64 0, .int .i64 0, .int .i64 0] 112) = w4 at *
  have z0 := B3.out.frozen
  have hB9 := Lib.hid (putV B3.out (.int .i64 0) (.bool false) (.slice none 0 0) (.int .i64 0) (.float .f64 0))
  have hF9 := Lib.hid (putV_frame (w := w) (b := w.heap.size) (Nat.le_refl _) F3.out (.int .i64 0) (.bool false) (.slice none 0 0) (.int .i64 0) (.float .f64 0))
  have y0 := B3.out.at 0 rfl
  have y1 := B3.out.at 1 rfl
  have y2 := B3.out.at 2 rfl
  have y3 := B3.out.at 3 rfl
  have y4 := B3.out.at 4 rfl
  go_wp2_with fail
  refine bodyPost_ret (results_val2 rfl _ _ _ _ _ _ _ _ rfl hB9.out) rfl ?_
  exact ⟨rfl, hF9.out⟩
set_option maxRecDepth 100000 in
set_option maxHeartbeats 4000000 in
theorem truth_none (pb : Nat) (F : List Nat) (l : List Gt) (left : Int) (root : Int) (hr : notG l.length root = true) (ta : Option Addr) (tn tc : Nat) (w : World) (h : St w pb F l left) :
    Calls Tryz.prog 26 #[.pointer (some ⟨pb, 0, none⟩), .int .i64 root, .slice ta tn tc] w fun e w' => e = .returned (.bool false) ∧ Frame [] w w' := by
  have TK := Lib.hid (tokens_none pb F l left root w h hr)
  have WO := Lib.hid (fun w' (f : Frame [] w w') => evWithout_none semOk_bool pb F l left root hr none 0 0 none 0 0 w' (h.frame0 f))
  clear h hr
  go_enter Tryz.func26, Tryz.ntmps26
  go_wp2_with fail
  refine TK.out.mono ?_
  rintro e w1 ⟨rfl, f1⟩
  have F1 := Lib.hid f1
  clear f1 TK
  go_wp2_with fail
  go_loopw [7, 9, 16] (fun u _ i wr => u = .slice none 0 0 ∧ i = .int .i64 0 ∧ wr = w1) (fun _ _ _ _ => 0)
  case atStart => exact ⟨rfl, rfl, rfl⟩
  case round =>
    obtain ⟨rfl, rfl, rfl⟩ := hrel
    go_wp2_with fail
    refine (WO.out _ F1.out).mono ?_
    rintro e w5 ⟨rfl, f5⟩
    have F5 := Lib.hid (F1.out.trans1 f5)
    clear f5 WO
    have hst := fun (w : World) (a : Addr) (q : Nat) (m : Mode) => run_store Tryz.prog w a (.float .f64 q) m rfl
    go_wp2_with fail
    go_ret
    exact ⟨rfl, F5.out.trans1 (by (repeat first | assumption | exact Frame.refl _ _ | refine Frame.trans1 ?_ (Frame.alloc _ _ _) | refine Frame.trans1 ?_ (Frame.drew _ _) | refine Frame.trans1 ?_ (Frame.drewN _ _ _)))⟩
/-- No gate: no circuit. -/
def NilEnd (c : Int) (w : World) (e : Ending) (w' : World) : Prop := e = .returned (.tuple #[.pointer none, .int .i64 0, .int .i64 c]) ∧ Frame [] w w'
set_option maxRecDepth 100000 in
set_option maxHeartbeats 4000000 in
theorem restrict_none (pb : Nat) (F : List Nat) (l : List Gt) (left : Int) (root : Int) (hr : notG l.length root = true) (ta : Option Addr) (tn tc : Nat) (budget : Int) (w : World) (h : St w pb F l left) :
    Calls Tryz.prog 32 #[.pointer (some ⟨pb, 0, none⟩), .int .i64 root, .slice ta tn tc, .int .i64 budget] w (NilEnd 1 w) := by
  have GA := Lib.hid (fun w' (f : Frame [] w w') => gate_get_none (some ⟨pb, 0, none⟩) l.length root w' (h.frame0 f).lens hr)
  clear h hr
  go_enter Tryz.func32, Tryz.ntmps32
  go_upto_region 1 with fail
  have f0 : Frame [] w ((((w.alloc (.cells #[.pointer (some ⟨pb, 0, none⟩)] 26)).alloc (.cells #[.int .i64 root] 3)).alloc (.cells #[.slice ta tn tc] 50)).alloc (.cells #[.pointer none] 26)) := by (repeat first | assumption | exact Frame.refl _ _ | refine Frame.trans1 ?_ (Frame.alloc _ _ _) | refine Frame.trans1 ?_ (Frame.drew _ _) | refine Frame.trans1 ?_ (Frame.drewN _ _ _))
  have b4 := (((Blk.new w 26 #[.pointer (some ⟨pb, 0, none⟩)]).alloc (.cells #[.int .i64 root] 3)).alloc (.cells #[.slice ta tn tc] 50)).alloc (.cells #[.pointer none] 26)
  have b5 := ((Blk.new (w.alloc (.cells #[.pointer (some ⟨pb, 0, none⟩)] 26)) 3 #[.int .i64 root]).alloc (.cells #[.slice ta tn tc] 50)).alloc (.cells #[.pointer none] 26)
  have b8 := Blk.new (((w.alloc (.cells #[.pointer (some ⟨pb, 0, none⟩)] 26)).alloc (.cells #[.int .i64 root] 3)).alloc (.cells #[.slice ta tn tc] 50)) 26 #[.pointer none]
  simp only [World.size_alloc] at b5 b8
  obtain ⟨wA, hwA⟩ : ∃ wA, ((((w.alloc (.cells #[.pointer (some ⟨pb, 0, none⟩)] 26)).alloc (.cells #[.int .i64 root] 3)).alloc (.cells #[.slice ta tn tc] 50)).alloc (.cells #[.pointer none] 26)) = wA := ⟨_, rfl⟩
  rw [hwA] at f0 b4 b5 b8 ⊢
  clear hwA
  have x4 := b4.at 0 rfl
  have x5 := b5.at 0 rfl
  have B := Lib.hid (And.intro f0 b8)
  clear b4 b5 b8
  go_wp2_with fail
  refine (GA.out _ f0).mono ?_
  rintro e w1 ⟨rfl, f1⟩
  have fG := f1.trans1 (Frame.alloc [] w1 (.cells #[.int .i64 0, .int .i64 0, .int .i64 0] 112))
  clear x4 x5 GA f0
  go_upto_region 3 with fail
  have b9 := B.out.2.frame fG (by simp)
  have y8 := b9.at 0 rfl
  have z8 := b9.frozen 0
  have hf := (B.out.1.trans1 fG).trans (Frame.setCell (S := [w.heap.size + 1 + 1 + 1]) (w1.alloc (.cells #[.int .i64 0, .int .i64 0, .int .i64 0] 112)) ⟨w.heap.size + 1 + 1 + 1, 0, none⟩ (.pointer none) (by simp)) (fun x hx => by simp at hx; exact .inr (by omega))
  have c8 := (b9.set 0 (.pointer none)).at 0 rfl
  have K := Lib.hid (And.intro hf c8)
  clear fG f1 B b9 hf c8
  go_wp2_with fail
  refine bodyPost_ret (v := .tuple #[.pointer none, .int .i64 0, .int .i64 1]) (by have := K.out.2; simp [results, Tryz.results32, go_sem, this]) rfl ⟨rfl, K.out.1⟩
theorem rrestrict_none (pb : Nat) (F : List Nat) (l : List Gt) (bud : Int) (root : Int) (hr : notG l.length root = true) (ta : Option Addr) (tn tc : Nat) (budget : Int) (w : World) (h : RSt w pb F l bud) :
    Calls Tryz.prog 35 #[.pointer (some ⟨pb, 0, none⟩), .int .i64 root, .slice ta tn tc, .int .i64 budget] w (NilEnd 1 w) := by
  have hri := ris_any h root
  rw [hr] at hri
  have RI := Lib.hid hri
  clear hri h hr
  go_enter Tryz.func35, Tryz.ntmps35
  go_wp2_with fail
  refine RI.out.mono ?_
  rintro e w ⟨rfl, rfl⟩
  go_wp2_with fail
  refine bodyPost_ret (v := .tuple #[.pointer none, .int .i64 0, .int .i64 1]) (by simp [results, Tryz.results35, go_sem]) rfl ⟨rfl, Frame.refl _ _⟩
theorem rtruth_none (pb : Nat) (F : List Nat) (l : List Gt) (bud : Int) (root : Int) (hr : notG l.length root = true) (ta : Option Addr) (tn tc : Nat) (w : World) (h : RSt w pb F l bud) :
    Calls Tryz.prog 39 #[.pointer (some ⟨pb, 0, none⟩), .int .i64 root, .slice ta tn tc] w fun e w' => e = .returned (.bool false) ∧ Frame [] w w' := by
  have hri := ris_any h root
  rw [hr] at hri
  have RI := Lib.hid hri
  clear hri h hr
  go_enter Tryz.func39, Tryz.ntmps39
  go_wp2_with fail
  refine RI.out.mono ?_
  rintro e w ⟨rfl, rfl⟩
  go_wp2_with fail
  go_ret
  exact ⟨rfl, Frame.refl _ _⟩
set_option maxRecDepth 100000 in
theorem copy_none (pb : Nat) (F : List Nat) (l : List Gt) (left : Int) (root : Int) (hr : notG l.length root = true) (budget : Int) (w : World) (h : St w pb F l left) :
    Calls Tryz.prog 37 #[.pointer (some ⟨pb, 0, none⟩), .int .i64 root, .int .i64 budget] w (NilEnd 1 w) := by
  have HR := Lib.hid (restrict_none pb F l left root hr none 0 0 budget w h)
  clear h hr
  go_enter Tryz.func37, Tryz.ntmps37
  go_wp2_with fail
  refine HR.out.mono ?_
  rintro e w' ⟨rfl, f⟩
  have FF := Lib.hid f
  clear f
  go_wp2_with fail
  refine bodyPost_ret (v := .tuple #[.pointer none, .int .i64 0, .int .i64 1]) (by simp [results, Tryz.results37, go_sem]) rfl ⟨rfl, FF.out⟩
set_option maxRecDepth 100000 in
theorem least_none (pb : Nat) (F : List Nat) (l : List Gt) (left : Int) (root : Int) (hr : notG l.length root = true) (ta : Option Addr) (tc : Nat) (ts : List Int) (w : World) (h : St w pb F l left) (ht : RdI w ta ts) (htl : ts.length ≤ 1000) :
    Calls Tryz.prog 41 #[.pointer (some ⟨pb, 0, none⟩), .int .i64 root, .slice ta ts.length tc] w (RowEndI [] w) := by
  have AS := Lib.hid (asorted_any ta tc ts w ht (by omega))
  have TR := Lib.hid (fun w' (f : Frame [] w w') a n c => truth_none pb F l left root hr a n c w' (h.frame0 f))
  clear h ht hr
  generalize srtI ts = S at *
  go_enter Tryz.func41, Tryz.ntmps41
  go_wp2_with fail
  refine AS.out.mono ?_
  rintro e w1 ⟨a1, c1, G1, rfl, s1, f1, -⟩
  have F1 := Lib.hid f1
  clear s1 f1 AS
  go_wp2_with fail
  refine (TR.out _ F1.out _ _ _).mono ?_
  rintro e w2 ⟨rfl, f2⟩
  have F2 := Lib.hid (F1.out.trans1 f2)
  clear f2
  go_wp2_with fail
  go_ret
  exact ⟨none, 0, rfl, .inl rfl, F2.out, Nat.le_refl _, by unfold maxLen; omega⟩
set_option maxRecDepth 100000 in
theorem rleast_none (pb : Nat) (F : List Nat) (l : List Gt) (bud : Int) (root : Int) (hr : notG l.length root = true) (ta : Option Addr) (tc : Nat) (ts : List Int) (w : World) (h : RSt w pb F l bud) (ht : RdI w ta ts) (htl : ts.length ≤ 1000) :
    Calls Tryz.prog 42 #[.pointer (some ⟨pb, 0, none⟩), .int .i64 root, .slice ta ts.length tc] w (RowEndI [] w) := by
  have AS := Lib.hid (rsortI_any (fun _ => True) ta tc ts w (rfT15 ht) (by omega))
  have TR := Lib.hid (fun w' (f : Frame [] w w') a n c => rtruth_none pb F l bud root hr a n c w' (h.frame0 f))
  clear h ht hr
  generalize srtI ts = S at *
  go_enter Tryz.func42, Tryz.ntmps42
  go_wp2_with fail
  refine AS.out.mono ?_
  rintro e w1 ⟨a1, c1, G1, rfl, s1, f1, -⟩
  have F1 := Lib.hid f1
  clear s1 f1 AS
  go_wp2_with fail
  refine (TR.out _ F1.out _ _ _).mono ?_
  rintro e w2 ⟨rfl, f2⟩
  have F2 := Lib.hid (F1.out.trans1 f2)
  clear f2
  go_wp2_with fail
  go_ret
  exact ⟨none, 0, rfl, .inl rfl, F2.out, Nat.le_refl _, by unfold maxLen; omega⟩
/-- Empty. -/
theorem empty_of (pb : Nat) (root : Int) (b : Bool) (w : World) (h : Calls Tryz.prog 26 #[.pointer (some ⟨pb, 0, none⟩), .int .i64 root, .slice none 0 0] w fun e w' => e = .returned (.bool b) ∧ Frame [] w w') :
    Calls Tryz.prog 38 #[.pointer (some ⟨pb, 0, none⟩), .int .i64 root] w fun e w' => e = .returned (.bool b) ∧ Frame [] w w' := by
  have H := Lib.hid h
  clear h
  go_enter Tryz.func38, Tryz.ntmps38
  go_wp2_with fail
  refine H.out.mono ?_
  rintro e w1 ⟨rfl, f1⟩
  go_wp2_with fail
  go_ret
  exact ⟨rfl, f1⟩
end Go.Proofs.YtbnhhmejlglbcaaGreat

