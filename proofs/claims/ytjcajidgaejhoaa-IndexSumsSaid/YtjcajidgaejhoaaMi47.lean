/- slices.Clone at ints. The reference's Node. graph's Node. The reference's Holds. graph's Holds. The index: Ids, Has, New. -/
import Derived.Test.YtjcajidgaejhoaaMi05
import Derived.Test.YtjcajidgaejhoaaMi36
import Derived.Test.YtjcajidgaejhoaaMi23
import Derived.Test.YtjcajidgaejhoaaMi25
import Derived.Test.YtjcajidgaejhoaaMi38
import Derived.Test.YtjcajidgaejhoaaMi40
import Derived.Test.YtjcajidgaejhoaaMi20
import Derived.Test.YtjcajidgaejhoaaMi46
namespace Go.Proofs.Ytjcajidgaejhoaa
open Go.RowKit
set_option linter.unusedSimpArgs false
set_option linter.unusedVariables false

set_option maxRecDepth 100000 in
theorem clone_int (a : Option Addr) (cap : Nat) (xs : List Int) (G : List Nat) (w : World) (h : Sl w 3 1 encI (.slice a xs.length cap) xs G) (hn : xs.length ≤ 1000000) :
    Calls Try.prog 32 #[.slice a xs.length cap] w fun e w' => ∃ a' cap' G', e = .returned (.slice a' xs.length cap') ∧ Sl w' 3 1 encI (.slice a' xs.length cap') xs G' ∧ Frame [] w w' ∧ ∀ x ∈ G', w.heap.size ≤ x := by
  rcases id h with ⟨hv, rfl, _⟩ | ⟨b, cap', hv, _, hr⟩
  · injection hv with hv1 _ hv2
    subst hv1 hv2
    clear h
    have q22 : ∀ (w : World) (a : Option Addr) (n c n' c' : Nat), (binOp .eql 52 (.slice a n c) (.slice none n' c')).run Try.prog w = .ok (.bool a.isNone) w := fun w a n c n' c' => Lib.run_eql_slice_nil w _ _ a n c n' c' Try.underlying52
    go_enter Try.func32, Try.ntmps32
    go_wp2_with fail
    go_ret
    exact ⟨none, 0, [], rfl, Sl.nil _ _ _ _, Frame.refl _ _, by simp⟩
  · injection hv with hv1 _ hv2
    subst hv1 hv2
    obtain ⟨i0, hi, hz0, hz1, hz2⟩ := info_parts infoInt
    have HI := Lib.hid (And.intro hi (And.intro hz0 (And.intro hz1 hz2)))
    obtain ⟨news, hnews⟩ : ∃ news, news = xs.flatMap encI := ⟨_, rfl⟩
    have s1 : Hid (news.length = xs.length * 1) := Lib.hid (by rw [hnews]; exact flat_len encI_len xs)
    have s2 : Hid (∀ w', Frame [] w w' → ∀ j u, news[j]? = some u → w'.cell? ((⟨b, 0, none⟩ : Addr).add j) = some u) := Lib.hid (fun w' f j u hj => by
      rw [Addr.add_lit, Nat.zero_add]
      exact (hr.frame f (by simp)).cell (by rw [← hnews]; exact hj))
    have s3 : Hid (∀ u ∈ news, u.oneCell' = true) := Lib.hid (fun u hu => by
      rw [hnews] at hu
      obtain ⟨y, _, hy⟩ := List.mem_flatMap.1 hu
      exact encI_one y u hy)
    have s4 : Hid (0 + xs.length ≤ maxLen) := Lib.hid (by unfold maxLen; omega)
    have s5 : Hid ((0 + xs.length) * 8 ≤ 140737488355328) := Lib.hid (by omega)
    have HN := Lib.hid hnews
    clear h hr hnews hi hz0 hz1 hz2
    have q22 : ∀ (w : World) (a : Option Addr) (n c n' c' : Nat), (binOp .eql 52 (.slice a n c) (.slice none n' c')).run Try.prog w = .ok (.bool a.isNone) w := fun w a n c n' c' => Lib.run_eql_slice_nil w _ _ a n c n' c' Try.underlying52
    go_enter Try.func32, Try.ntmps32
    go_wp2_with (at_builtin; refine wpList_append_own _ rfl _ _ 52 rfl w.heap.size 3 i0 _ 1 8 Try.underlying52 HI.out.1 HI.out.2.1 HI.out.2.2.1 HI.out.2.2.2 rfl (by decide) _ _ _ rfl (World.ownsRow_made w #[] 0 (Nat.le_refl _) (Nat.zero_le _) (by simp)) ⟨b, 0, none⟩ xs.length cap news rfl s1.out (s2.out _ (Frame.alloc _ _ _)) s3.out s4.out s5.out (by simp) ?_)
    intro v' w1 hown hgrow hnil
    go_wp2_with fail
    go_ret
    have hf : Frame [] w w1 := by
      have fa := Frame.alloc [] w (.cells #[] 3)
      refine fa.trans (Frame.of_grown (S := [w.heap.size]) hgrow (by intro k hk; simp [Value.ownBlock] at hk; simp [hk])) (by simp)
    rcases hown.2 with ⟨e, _⟩ | ⟨g, c, cur, e, hg, h1, h2, h3, h4, h5⟩
    · exact absurd e hnil
    · refine ⟨some ⟨g, 0, none⟩, c, [g], by rw [e]; simp, .inr ⟨g, c, rfl, rfl, RowAt.of_blk h1 (by omega) h3 h4 (by rw [← HN.out]; simpa using h5)⟩, hf, by simpa using hg⟩
end Go.Proofs.Ytjcajidgaejhoaa

namespace Go.Proofs.Ytjcajidgaejhoaa
open Go.RowKit
set_option linter.unusedSimpArgs false
set_option linter.unusedVariables false

/-- A node as a value. -/
def NdIs (U : Nat → Prop) (w : World) (x : Value) (n : Nv) : Prop := ∃ la lc pa pc, x = .agg #[.int .i64 n.1, .slice la n.2.1.length lc, .slice pa n.2.2.length pc] ∧ RF U w 1 encS la n.2.1 ∧ RF U w 2 Pr.cs pa n.2.2
theorem NdIs.frame0 {U : Nat → Prop} {w w' : World} {x : Value} {n : Nv} (h : NdIs U w x n) (f : Frame [] w w') : NdIs U w' x n := by
  obtain ⟨la, lc, pa, pc, h1, h2, h3⟩ := h
  exact ⟨la, lc, pa, pc, h1, h2.frame0 f, h3.frame0 f⟩
theorem RF.nil0 {α : Type} (U : Nat → Prop) (w : World) (sz : Nat) (enc : α → List Value) (a : Option Addr) : RF U w sz enc a [] := fun k x hx => by simp at hx
def nodeOf (ns : List Nv) (t : Int) : Nv × Bool := if t ∈ ns.map (·.1) then (match ns[rank (ns.map (·.1)) t]? with | some n => (n, true) | none => ((0, [], []), false)) else ((0, [], []), false)
def NodeEnd (U : Nat → Prop) (ns : List Nv) (t : Int) (w : World) (e : Ending) (w' : World) : Prop := ∃ x, e = .returned (.tuple #[x, .bool (nodeOf ns t).2]) ∧ NdIs U w' x (nodeOf ns t).1 ∧ Frame [] w w'

end Go.Proofs.Ytjcajidgaejhoaa

namespace Go.Proofs.Ytjcajidgaejhoaa
open Go.RowKit
set_option linter.unusedSimpArgs false
set_option linter.unusedVariables false

end Go.Proofs.Ytjcajidgaejhoaa

namespace Go.Proofs.Ytjcajidgaejhoaa
open Go.RowKit
set_option linter.unusedSimpArgs false
set_option linter.unusedVariables false

/-- Does a node carry the filter's text? -/
def carries (n : Nv) (pr : Bool) (nm vl : ByteArray) : Bool := if pr = true then n.2.2.any (fun p => decide (p.name = nm ∧ p.val = vl)) else memS nm n.2.1
def holdsV (ns : List Nv) (t : Int) (pr : Bool) (nm vl : ByteArray) : Bool := (nodeOf ns t).2 && carries (nodeOf ns t).1 pr nm vl

end Go.Proofs.Ytjcajidgaejhoaa

namespace Go.Proofs.Ytjcajidgaejhoaa
open Go.RowKit
set_option linter.unusedSimpArgs false
set_option linter.unusedVariables false

theorem any_prop {ps : List Pr} {nm vl : ByteArray} : (ps.any (fun p => decide (p.name = nm ∧ p.val = vl))) = true ↔ (⟨nm, vl⟩ : Pr) ∈ ps := by
  rw [List.any_eq_true]
  constructor
  · rintro ⟨⟨a, b⟩, h1, h2⟩
    have : a = nm ∧ b = vl := by simpa using h2
    obtain ⟨rfl, rfl⟩ := this
    exact h1
  · exact fun h => ⟨_, h, by simp⟩
end Go.Proofs.Ytjcajidgaejhoaa

namespace Go.Proofs.Ytjcajidgaejhoaa
open Go.RowKit
set_option linter.unusedSimpArgs false
set_option linter.unusedVariables false

section
variable {U : Nat → Prop} {xb : Nat} {ns : List Nv} {es : List Ed} {given : Int} {w : World}
theorem ids_any (h : IX U xb ns es given w) (hl : ns.length ≤ 1000000) :
    Calls Try.prog 18 #[.pointer (some ⟨xb, 0, none⟩)] w (FreshEnd 3 1 encI (ns.map (·.1)) w) := by
  obtain ⟨-, gb, na, nc, ea, ec, hb, -, ⟨N, hn, -⟩, -⟩ := h
  have hlen : (ns.map (·.1)).length = ns.length := List.length_map ..
  have c1 := hb.at 1 rfl
  have HC := Lib.hid (fun w' (f : Frame [] w w') => clone_int na nc (ns.map (·.1)) N w' (by rw [hlen]; exact hn.frame0 f) (by rw [hlen]; exact hl))
  rw [hlen] at HC
  have HL := Lib.hid hlen
  clear hb hn hlen
  go_enter Try.func18, Try.ntmps18
  go_wp2_with fail
  refine (HC.out _ (by (repeat first | assumption | exact Frame.refl _ _ | refine Frame.trans1 ?_ (Frame.alloc _ _ _) | refine Frame.trans1 ?_ (Frame.drew _ _) | refine Frame.trans1 ?_ (Frame.drewN _ _ _)))).mono ?_
  rintro e w1 ⟨a, c, G, rfl, sl, f1, hG⟩
  have Q := Lib.hid (And.intro sl (And.intro f1 hG))
  clear sl f1 hG c1
  go_wp2_with fail
  go_ret
  exact ⟨a, c, G, by rw [HL.out]; rfl, by rw [HL.out]; exact Q.out.1, Q.out.2.1, Q.out.2.2⟩
theorem ids_nil (w : World) : Calls Try.prog 18 #[.pointer none] w fun e w' => e = .returned (.slice none 0 0) ∧ Frame [] w w' := by
  go_enter Try.func18, Try.ntmps18
  go_wp2_with fail
  go_ret
  exact ⟨rfl, Frame.refl _ _⟩
end

set_option maxHeartbeats 8000000 in
set_option maxRecDepth 100000 in
theorem inew_any {w wr : World} {pb : Nat} {ns : List Nv} {es : List Ed} {given : Int} (h : VOwn w pb ns es given wr) (g : GOk ns es given) :
    Calls Try.prog 8 #[.pointer (some ⟨pb, 0, none⟩)] wr fun e w' => ∃ xb, e = .returned (.pointer (some ⟨xb, 0, none⟩)) ∧ IX (fun b => wr.heap.size ≤ b ∧ b < w'.heap.size) xb ns es given w' ∧ Frame [] wr w' := by
  have H := Lib.hid h
  have GK := Lib.hid g
  have l1 := g.v.len
  have l2 := g.e.len
  have HA := Lib.hid (own_all h g)
  clear h g
  have wo0 : esWo es [] = es := by unfold esWo; simp
  go_enter Try.func8, Try.ntmps8
  go_wp2_with fail
  refine HA.out.mono ?_
  clear HA
  rintro e w5 ⟨v, rfl, ⟨bn, mc, be, dc, rfl, hn, he⟩, f5⟩
  simp only at hn he
  go_wp2_with fail
  have b6 := Blk.new w5 25 #[.slice bn ns.length mc, .slice be es.length dc, .int .i64 (given + 1)]
  have f6 := f5.trans1 (Frame.alloc [] w5 (.cells #[.slice bn ns.length mc, .slice be es.length dc, .int .i64 (given + 1)] 25))
  have hn6 := hn.frame0 (Frame.alloc [] w5 (.cells #[.slice bn ns.length mc, .slice be es.length dc, .int .i64 (given + 1)] 25))
  have he6 := he.frame0 (Frame.alloc [] w5 (.cells #[.slice bn ns.length mc, .slice be es.length dc, .int .i64 (given + 1)] 25))
  generalize w5.alloc (.cells #[.slice bn ns.length mc, .slice be es.length dc, .int .i64 (given + 1)] 25) = w6 at *
  generalize w5.heap.size = ba at *
  have B6 := Lib.hid b6
  have F6 := Lib.hid f6
  have RB := Lib.hid (And.intro hn6 he6)
  clear b6 f6 f5 hn he hn6 he6
  have HW : Hid (∀ w', Frame [] w6 w' → Calls Try.prog 22 #[.pointer (some ⟨pb, 0, none⟩), .slice none 0 0] w' fun e w'' => ∃ qb, e = .returned (.pointer (some ⟨qb, 0, none⟩)) ∧ VOwn w' qb ns es given w'') := by
    show ∀ w', _
    intro w' f
    have := gwithout_any ((H.out.quiet F6.out).quiet f) GK.out none 0 [] (RF.nil _ _ _ _ _) (by simp)
    rw [wo0] at this
    exact this
  go_cut [4] (fun u wx => ∃ xb, u = .pointer (some ⟨xb, 0, none⟩) ∧ Hid (∃ gb F, Frame [] w6 wx ∧ w6.heap.size ≤ xb ∧ Blk wx xb 59 #[.pointer (some ⟨gb, 0, none⟩), .slice none 0 0, .slice be es.length dc] ∧ GV wx gb F ns es given ∧ (∀ x ∈ F, w6.heap.size ≤ x) ∧ xb ∉ F))
  case first =>
    have Y1 : ∀ w', Frame [] w6 w' → w'.cell? ⟨ba, 1, none⟩ = some (.slice be es.length dc) := fun w' f => (B6.out.frame f (by simp)).at 1 rfl
    go_region_held3 (fun w' => Frame [] w6 w') ((repeat first | assumption | exact Frame.refl _ _ | refine Frame.trans1 ?_ (Frame.alloc _ _ _) | refine Frame.trans1 ?_ (Frame.drew _ _) | refine Frame.trans1 ?_ (Frame.drewN _ _ _)))
      ((first
        | (go_at_call 22; refine (HW.out _ (by (repeat first | assumption | exact Frame.refl _ _ | refine Frame.trans1 ?_ (Frame.alloc _ _ _) | refine Frame.trans1 ?_ (Frame.drew _ _) | refine Frame.trans1 ?_ (Frame.drewN _ _ _)))).mono ?_; rintro e w7 ⟨gb, rfl, o7⟩; have F7 : Frame [] w6 w7 := (show Frame [] w6 _ from by (repeat first | assumption | exact Frame.refl _ _ | refine Frame.trans1 ?_ (Frame.alloc _ _ _) | refine Frame.trans1 ?_ (Frame.drew _ _) | refine Frame.trans1 ?_ (Frame.drewN _ _ _))).trans1 (VOwn.frame o7); have O7 := Lib.hid (VOwn.before (show Frame [] w6 _ from by (repeat first | assumption | exact Frame.refl _ _ | refine Frame.trans1 ?_ (Frame.alloc _ _ _) | refine Frame.trans1 ?_ (Frame.drew _ _) | refine Frame.trans1 ?_ (Frame.drewN _ _ _))) o7); clear o7)))
    all_goals
      go_wp2_with fail
      go_meet
      case rel =>
        obtain ⟨F, q1, q2, q3⟩ := O7.out
        exact ⟨_, rfl, gb, F, F7.trans1 (Frame.alloc _ _ _), F7.size, Blk.new _ _ _, q1.frame0 (Frame.alloc _ _ _), q3, fun hm => by have := q1.lt _ hm; omega⟩
  case rest =>
    obtain ⟨xb, rfl, hc⟩ := hcut
    obtain ⟨gb, F, f7, hx9, bx, gv, hF, hxF⟩ := hc.out
    have y0 := (B6.out.frame f7 (by simp)).at 0 rfl
    have HF := Lib.hid (And.intro hF hxF)
    have ST := Lib.hid (And.intro bx (And.intro gv f7))
    clear hc bx gv hF hxF f7 HW
    go_wp2_with fail
    clear y0
    go_loopw [20] (fun i wr9 => ∃ (k : Nat) (na : Option Addr) (nc : Nat) (N : List Nat), k ≤ ns.length ∧ i = .int .i64 k ∧ Hid (Blk wr9 xb 59 #[.pointer (some ⟨gb, 0, none⟩), .slice na k nc, .slice be es.length dc] ∧ Sl wr9 3 1 encI (.slice na k nc) ((ns.take k).map (·.1)) N ∧ GV wr9 gb F ns es given ∧ Frame [] w6 wr9 ∧ ∀ x ∈ N, w6.heap.size ≤ x ∧ x ∉ F ∧ x ≠ xb)) (fun i _ => ns.length - (intOf i).toNat)
    case atStart => exact ⟨0, none, 0, [], Nat.zero_le _, rfl, ST.out.1, Sl.nil _ _ _ _, ST.out.2.1, ST.out.2.2, by simp⟩
    case round =>
      rename World => wq
      obtain ⟨k, na, nc, N, hk, rfl, hR⟩ := hrel
      clear ST
      by_cases hlt : k < ns.length
      · have hk' : ns[k]? = some ns[k] := by simp [hlt]
        obtain ⟨b9, off, la, lc, pa, pc, rfl, -, k0, k1, k2, -⟩ := RB.out.1 k _ hk'
        have c0 := hR.out.2.2.2.1.cell k0 (by simp)
        have c1 := hR.out.2.2.2.1.cell k1 (by simp)
        have c2 := hR.out.2.2.2.1.cell k2 (by simp)
        have hmap : (ns.take (k + 1)).map (·.1) = (ns.take k).map (·.1) ++ [ns[k].1] := by rw [take_one' hk', List.map_append]; rfl
        generalize ns[k] = n at *
        obtain ⟨nid, nls, nps⟩ := n
        simp only at c0 c1 c2 hmap
        have HM := Lib.hid hmap
        clear k0 k1 k2 hk' hmap
        go_wp2_with fail
        have bn := Blk.new wq 41 #[.int .i64 nid, .slice la nls.length lc, .slice pa nps.length pc]
        have fn := Frame.alloc [] wq (.cells #[.int .i64 nid, .slice la nls.length lc, .slice pa nps.length pc] 41)
        have hbz := bn.lt
        generalize wq.alloc (.cells #[.int .i64 nid, .slice la nls.length lc, .slice pa nps.length pc] 41) = wy at *
        generalize wq.heap.size = b8 at *
        have BX := Lib.hid (hR.out.1.frame fn (by simp))
        have BN := Lib.hid bn
        have SL := Lib.hid (hR.out.2.1.frame0 fn)
        have GVY := Lib.hid (hR.out.2.2.1.frame0 fn)
        have FY := Lib.hid (hR.out.2.2.2.1.trans1 fn)
        have hlenk : ((ns.take k).map (·.1)).length = k := by simp; omega
        clear bn fn c0 c1 c2
        have x1 := BX.out.at 1 rfl
        have n0 := BN.out.at 0 rfl
        have x1a : ∀ o, (wy.drew.alloc o).cell? ⟨xb, 1, none⟩ = some (.slice na k nc) := fun o => (BX.out.drew.alloc o).at 1 rfl
        have x1b : ∀ o, (wy.alloc o).cell? ⟨xb, 1, none⟩ = some (.slice na k nc) := fun o => (BX.out.alloc o).at 1 rfl
        have hxN : xb ∉ N := fun hm => (hR.out.2.2.2.2 xb hm).2.2 rfl
        go_region_law (refine step_append_sl _ (by rfl) (.tmp 28) (.tmp 31) 52 (by rfl) 3 1 8 _ encI Try.underlying52 infoInt rfl (by omega) (.slice na k nc) ((ns.take k).map (·.1)) k hlenk N (by rfl) (SL.out.frame0 (by (repeat first | assumption | exact Frame.refl _ _ | refine Frame.trans1 ?_ (Frame.alloc _ _ _) | refine Frame.trans1 ?_ (Frame.drew _ _) | refine Frame.trans1 ?_ (Frame.drewN _ _ _)))) _ 1 1 [nid] _ (by rfl) (by first | exact Blk.new _ _ _ | exact (Blk.new _ _ _).drew) rfl rfl encI_len encI_one (by omega) (by omega) (by omega) ?_; intro b' cap' w9 sl9 f9 hb9; have f49 : Frame N wy w9 := (show Frame N wy _ from by (repeat first | assumption | exact Frame.refl _ _ | refine Frame.trans1 ?_ (Frame.alloc _ _ _) | refine Frame.trans1 ?_ (Frame.drew _ _) | refine Frame.trans1 ?_ (Frame.drewN _ _ _))).trans1 f9; have ox9 := BX.out.frame f49 hxN; have z1 := ox9.frozen 1; have q1 := ox9.at 1 rfl)
        all_goals
          have hb' : b' ∈ N ∨ wy.heap.size ≤ b' := by
            rcases hb9 with h | h
            · exact .inl h
            · right; simp at h; omega
          have hpb : xb ≠ b' := by
            rcases hb' with h | h
            · exact fun e => hxN (e ▸ h)
            · have := BX.out.lt; omega
          have b9' : Blk (w9.setCell ⟨xb, 1, none⟩ (.slice (some ⟨b', 0, none⟩) (k + 1) cap')) xb 59 #[.pointer (some ⟨gb, 0, none⟩), .slice (some ⟨b', 0, none⟩) (k + 1) cap', .slice be es.length dc] := by simpa using ox9.set 1 (.slice (some ⟨b', 0, none⟩) (k + 1) cap')
          have s9' := sl9.frame (S := [xb]) (Frame.setCell w9 ⟨xb, 1, none⟩ (.slice (some ⟨b', 0, none⟩) (k + 1) cap') (by simp)) (by simp; exact fun e => hpb e.symm)
          have f9' : Frame (xb :: N) wy (w9.setCell ⟨xb, 1, none⟩ (.slice (some ⟨b', 0, none⟩) (k + 1) cap')) := (f49.mono (fun x hx => .inl (by simp [hx]))).trans1 (Frame.setCell _ _ _ (by simp))
          have hz := FY.out.size
          have hF' : ∀ x ∈ F, x ∉ xb :: N := fun x hx hm => by
            rcases List.mem_cons.1 hm with h | h
            · subst h; exact HF.out.2 hx
            · exact (hR.out.2.2.2.2 x h).2.1 hx
          have gv' := GVY.out.frame f9' hF'
          have hb'F : b' ∉ F := fun hm => by
            rcases hb' with h | h
            · exact (hR.out.2.2.2.2 b' h).2.1 hm
            · have := GVY.out.lt b' hm; omega
          have fw := FY.out.trans f9' (fun x hx => .inr (by
            rcases List.mem_cons.1 hx with h | h
            · subst h; exact hx9
            · exact (hR.out.2.2.2.2 x h).1))
          have Q := Lib.hid (And.intro b9' (And.intro s9' (And.intro gv' (And.intro fw (show ∀ x ∈ [b'], w6.heap.size ≤ x ∧ x ∉ F ∧ x ≠ xb from fun x hx => by
            simp at hx; subst hx
            refine ⟨?_, hb'F, fun e => hpb e.symm⟩
            rcases hb' with h | h
            · exact (hR.out.2.2.2.2 x h).1
            · omega)))))
          clear x1 n0 x1a x1b gv' fw hb'F hF' b9' s9' f9' sl9 f9 f49 ox9 z1 q1 hb9
          go_wp2_with fail
          go_roundw
          case rel => exact ⟨k + 1, some ⟨b', 0, none⟩, cap', [b'], by omega, by first | rfl | go_num, Lib.hid ⟨Q.out.1, by rw [HM.out]; exact Q.out.2.1, Q.out.2.2⟩⟩
          case measure => first | (simp [intOf]; done) | (simp [intOf]; omega)
      · obtain rfl : k = ns.length := by omega
        go_wp2_with fail
        go_ret
        obtain ⟨q1, q2, q3, q4, q5⟩ := hR.out
        rw [List.take_length] at q2
        have fin := F6.out.trans1 q4
        have hz6 := F6.out.size
        have he' := (RB.out.2.frame0 q4).in_heap (fun x => by rw [ed_len]; omega)
        exact ⟨xb, rfl, ⟨⟨by omega, q1.lt⟩, gb, na, nc, be, dc, q1, ⟨F, q3, fun x hx => ⟨Nat.le_trans hz6 (HF.out.1 x hx), q3.lt x hx⟩⟩, ⟨N, q2, fun x hx => ⟨Nat.le_trans hz6 (q5 x hx).1, q2.lt x hx⟩⟩, he'.mono (fun b hb => ⟨hb.1, hb.2⟩)⟩, fin⟩
end Go.Proofs.Ytjcajidgaejhoaa

