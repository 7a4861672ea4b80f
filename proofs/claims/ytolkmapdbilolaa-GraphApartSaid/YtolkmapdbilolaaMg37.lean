/- graph's Holds. What both graphs tell when they are asked. Two graphs that a call has made for itself, side by side. tansylaw10.awake. -/
import Derived.Test.YtolkmapdbilolaaMg36
import Derived.Test.YtolkmapdbilolaaMg27
import Derived.Test.YtolkmapdbilolaaMg11
import Derived.Test.YtolkmapdbilolaaMg31
import Derived.Test.YtolkmapdbilolaaMg35
import Derived.Test.YtolkmapdbilolaaMg30
import Derived.Test.YtolkmapdbilolaaMg05
import Derived.Test.YtolkmapdbilolaaMg07
import Derived.Test.YtolkmapdbilolaaMg06
namespace Go.Proofs.Ytolkmapdbilolaa
open Go.RowKit
set_option linter.unusedSimpArgs false
set_option linter.unusedVariables false

theorem any_prop {ps : List Pr} {nm vl : ByteArray} : (ps.any (fun p => decide (p.name = nm ∧ p.val = vl))) = true ↔ (⟨nm, vl⟩ : Pr) ∈ ps := by
  rw [List.any_eq_true]
  constructor
  · rintro ⟨⟨a, b⟩, h1, h2⟩
    have : a = nm ∧ b = vl := by simpa using h2
    obtain ⟨rfl, rfl⟩ := this
    exact h1
  · exact fun h => ⟨_, h, by simp⟩
set_option maxHeartbeats 8000000 in
set_option maxRecDepth 100000 in
theorem gholds_any {w : World} {pb : Nat} {F : List Nat} {ns : List Nv} {es : List Ed} {given : Int} (h : GV w pb F ns es given) (hv : VOk ns) (t : Int) (vr nm vl : ByteArray) (pr : Bool) :
    Calls Try.prog 49 #[.pointer (some ⟨pb, 0, none⟩), .int .i64 t, .agg #[.string vr, .bool pr, .string nm, .string vl]] w fun e w' => e = .returned (.bool (holdsV ns t pr nm vl)) ∧ Frame [] w w' := by
  obtain ⟨rs, hg, hns⟩ := h
  have hu := hv.up
  have hids : (rs.map (·.nd)).map (·.id) = ns.map (·.1) := by rw [← hns, List.map_map, List.map_map]; rfl
  have hl : rs.length = ns.length := by rw [← hns, List.length_map]
  have hn12 := hv.len
  have HFD := Lib.hid (fun w' (f : Frame [] w w') => gg_find hg (by rw [hids]; exact hu) (by omega) t w' f)
  rw [hids] at HFD
  obtain ⟨FG, ⟨an, nc, ae, ec, G, H, hb, sn, se, n1, n2, n3, rfl⟩, h2, h3, rfl⟩ := hg
  rw [List.length_map, hl] at hb
  have HB := Lib.hid hb
  have SN := Lib.hid sn
  have H2 := Lib.hid h2
  have hlt := hb.lt
  clear hb sn se h2 h3 n1 n2 n3 hids
  by_cases ht : t ∈ ns.map (·.1)
  case neg =>
    have E : Hid (holdsV ns t pr nm vl = false) := by show _ = _; unfold holdsV nodeOf; rw [if_neg ht]; rfl
    rw [decide_eq_false ht] at HFD
    clear ht hu hv
    generalize rank (ns.map (·.1)) t = r at *
    go_enter Try.func49, Try.ntmps49
    go_wp2_with fail
    have fr := Frame.alloc [] w (.cells #[.string vr, .bool pr, .string nm, .string vl] 73)
    have b1 := Blk.new w 73 #[.string vr, .bool pr, .string nm, .string vl]
    generalize w.alloc (.cells #[.string vr, .bool pr, .string nm, .string vl] 73) = wa at *
    generalize w.heap.size = fb at *
    have B1 := Lib.hid b1
    have FR := Lib.hid fr
    clear b1 fr
    refine (HFD.out _ FR.out).mono ?_
    rintro e w3 ⟨rfl, f3⟩
    have F3 := Lib.hid (FR.out.trans1 f3)
    clear f3
    go_wp2_with fail
    go_ret
    exact ⟨by rw [E.out]; rfl, F3.out.trans1 (by (repeat first | assumption | exact Frame.refl _ _ | refine Frame.trans1 ?_ (Frame.alloc _ _ _) | refine Frame.trans1 ?_ (Frame.drew _ _) | refine Frame.trans1 ?_ (Frame.drewN _ _ _)))⟩
  obtain ⟨-, hrk⟩ := placeV_rank hu ht
  have hrs : rs[rank (ns.map (·.1)) t]? = some (rs[rank (ns.map (·.1)) t]'(by rw [hl]; exact hrk)) := by simp
  generalize rs[rank (ns.map (·.1)) t]'(by rw [hl]; exact hrk) = n at hrs
  have hnk : ns[rank (ns.map (·.1)) t]? = some n.tell := by rw [← hns, List.getElem?_map, hns, hrs]; rfl
  have E : Hid (holdsV ns t pr nm vl = carries n.tell pr nm vl) := by show _ = _; unfold holdsV nodeOf; rw [if_pos ht, hnk]; rfl
  rw [decide_eq_true ht] at HFD
  generalize rank (ns.map (·.1)) t = r at *
  have HRS := Lib.hid hrs
  obtain ⟨⟨e1, e2, e3, e4, -⟩, e5, e6⟩ := H2.out n (List.mem_of_getElem? hrs)
  have CS := Lib.hid (fun w' (f : Frame [] w w') => con_str (fun _ => True) n.nd.la n.nd.lc n.ls nm w' ((e3.rf encS_len (fun _ _ => trivial)).frame0 f) e5 (carries n.tell false nm vl) (by unfold carries; rw [if_neg (by simp)]; exact memS_iff))
  have CP := Lib.hid (fun w' (f : Frame [] w w') => con_prop (fun _ => True) n.nd.pa n.nd.pc n.ps ⟨nm, vl⟩ w' ((e4.rf pr_len (fun _ _ => trivial)).frame0 f) e6 (carries n.tell true nm vl) (by unfold carries; rw [if_pos rfl]; exact any_prop))
  clear ht hu hnk hrs hv e3 e4 e5 e6
  go_enter Try.func49, Try.ntmps49
  go_wp2_with fail
  have fr := Frame.alloc [] w (.cells #[.string vr, .bool pr, .string nm, .string vl] 73)
  have b1 := Blk.new w 73 #[.string vr, .bool pr, .string nm, .string vl]
  generalize w.alloc (.cells #[.string vr, .bool pr, .string nm, .string vl] 73) = wa at *
  generalize w.heap.size = fb at *
  have B1 := Lib.hid b1
  have FR := Lib.hid fr
  clear b1 fr
  refine (HFD.out _ FR.out).mono ?_
  rintro e w3 ⟨rfl, f3⟩
  have F3 := Lib.hid (FR.out.trans1 f3)
  have CS3 := Lib.hid (fun w' (f : Frame [] w3 w') => CS.out w' (F3.out.trans1 f))
  have CP3 := Lib.hid (fun w' (f : Frame [] w3 w') => CP.out w' (F3.out.trans1 f))
  have hx : (rs.map (·.nd))[r]? = some n.nd := by rw [List.getElem?_map, HRS.out]; rfl
  obtain ⟨b, cap, hv9, -, -, hc⟩ := (SN.out.frame F3.out (by simp)).cell nd_len hx
  injection hv9 with hv1 hv2 hv3
  subst hv1 hv3
  have q1 := hc 1 _ rfl
  have q2 := hc 2 _ rfl
  rw [e1] at q1
  rw [e2] at q2
  have z0 := (HB.out.frame F3.out (by simp)).at 0 rfl
  have b3 := B1.out.frame f3 (by simp)
  have p1 := b3.at 1 rfl
  have p2 := b3.at 2 rfl
  have p3 := b3.at 3 rfl
  have Q1 := framed_cell q1
  have Q2 := framed_cell q2
  have Z0 := framed_cell z0
  have P2 := framed_cell p2
  have P3 := framed_cell p3
  clear f3 b3 hc hv2 hx
  cases pr with
  | false =>
    go_wp2_with fail
    refine wp_region_framed (by kernel_rfl) (by kernel_rfl) ?_
    repeat (go_big_quiet_step ((go_at_call 97; exact framed_of (CS3.out _ (FramedBy.h _)))))
    refine wpQuiet_nil ?_
    intro w6 hw
    have f6 := framed_out hw
    clear hw
    go_wp2_with fail
    go_ret
    exact ⟨by rw [E.out]; rfl, F3.out.trans1 f6⟩
  | true =>
    go_wp2_with fail
    refine wp_region_framed (by kernel_rfl) (by kernel_rfl) ?_
    repeat (go_big_quiet_step ((go_at_call 98; exact framed_of (CP3.out _ (FramedBy.h _)))))
    refine wpQuiet_nil ?_
    intro w6 hw
    have f6 := framed_out hw
    clear hw
    go_wp2_with fail
    go_ret
    exact ⟨by rw [E.out]; rfl, F3.out.trans1 f6⟩
end Go.Proofs.Ytolkmapdbilolaa

namespace Go.Proofs.Ytolkmapdbilolaa
open Go.RowKit
set_option linter.unusedSimpArgs false
set_option linter.unusedVariables false

theorem Frame.setNew {a b : World} (h : Frame [] a b) (p : Addr) (v : Value) (hp : a.heap.size ≤ p.block) : Frame [] a (b.setCell p v) :=
  h.trans (Frame.setCell (S := [p.block]) b p v (by simp)) (fun x hx => by simp at hx; subst hx; exact .inr hp)
theorem Blk.new' {w : World} {T : TypeId} {cs : Array Value} {b : Nat} (h : b = w.heap.size) : Blk (w.alloc (.cells cs T)) b T cs := by subst h; exact Blk.new _ _ _
theorem BG.start {w w1 w2 : World} {pb rb : Nat} (f0 : Frame [] w w1) (h1 : GV w1 pb [pb] [] [] 0) (n1 : w.heap.size ≤ pb) {w3 : World} (f2 : Frame [] w1 w2) (h2 : RGv w3 rb [] [] [] 1) (f3 : Frame [] w2 w3) (n2 : w2.heap.size ≤ rb) : BG w [] pb rb [] [] 0 [] [] (0 + 1) w3 := by
  refine ⟨[pb], [], (h1.frame0 f2).frame0 f3, h2, (f0.trans1 f2).trans1 f3, by simpa using n1, ?_, ?_, by simp⟩
  · have := (f0.trans1 f2).size; omega
  · intro x hx
    simp at hx; subst hx
    have := h1.lts x (by simp)
    have := f2.size
    exact ⟨by omega, by simp⟩
theorem RGv.parts {w : World} {rb : Nat} {D : List Nat} {ns : List Nv} {es : List Ed} {next : Int} (h : RGv w rb D ns es next) : ∃ an nc ae ec, Blk w rb 82 #[.slice an ns.length nc, .slice ae es.length ec, .int .i64 next] ∧ RN (· ∈ D) w an ns ∧ RF (· ∈ D) w 4 Ed.cs ae es := by
  obtain ⟨zs, ⟨-, -, h3, an, nc, ae, ec, h4, h5, h6, -⟩, rfl⟩ := h
  exact ⟨an, nc, ae, ec, by rw [List.length_map]; exact h4, rn_of_zn h5 h3, h6⟩
theorem RdI.rf {w : World} {a : Option Addr} {xs : List Int} (h : RdI w a xs) : RF (fun b => b < w.heap.size) w 1 encI a xs := fun k x hx => by
  obtain ⟨hk, rfl⟩ := List.getElem?_eq_some_iff.1 hx
  obtain ⟨b, off, h1, h2⟩ := h.at hk
  refine ⟨b, off, h1, World.block_lt_of_cell? w _ h2, fun j u hu => ?_⟩
  cases j with
  | zero => simp [encI] at hu; subst hu; simpa using h2
  | succ j => simp [encI] at hu
def NdEnd (U : Nat → Prop) (n : Nv) (fn : Bool) (w : World) (e : Ending) (w' : World) : Prop := ∃ la lc pa pc, e = .returned (.tuple #[.agg #[.int .i64 n.1, .slice la n.2.1.length lc, .slice pa n.2.2.length pc], .bool fn]) ∧ RF U w' 1 encS la n.2.1 ∧ RF U w' 2 Pr.cs pa n.2.2 ∧ Frame [] w w'
theorem NdEnd.of {U V : Nat → Prop} {ns : List Nv} {t : Int} {w w' : World} {e : Ending} (h : NodeEnd U ns t w e w') (hU : ∀ b, U b → V b) : NdEnd V (nodeOf ns t).1 (nodeOf ns t).2 w e w' := by
  obtain ⟨x, h1, ⟨la, lc, pa, pc, rfl, h2, h3⟩, f⟩ := h
  exact ⟨la, lc, pa, pc, h1, h2.mono hU, h3.mono hU, f⟩
def EdEnd (ed : Ed) (fd : Bool) (w : World) (e : Ending) (w' : World) : Prop := e = .returned (.tuple #[.agg #[.int .i64 ed.tok, .int .i64 ed.src, .string ed.lab, .int .i64 ed.dst], .bool fd]) ∧ Frame [] w w'
theorem nodeOf_ok {ns : List Nv} (h : VOk ns) (t : Int) : (nodeOf ns t).1.2.1.length ≤ 8 ∧ (nodeOf ns t).1.2.2.length ≤ 8 := by
  unfold nodeOf
  split
  · split
    · rename_i n hn
      have hm := List.mem_of_getElem? hn
      exact ⟨(h.ls n hm).2, (h.ps n hm).2⟩
    · simp
  · simp
/-- What both tell of a number. -/
structure Plays (w : World) (pb rb : Nat) (ns : List Nv) (es : List Ed) (g t : Int) (vr nm vl : ByteArray) (pr : Bool) (an : Option Addr) (nc : Nat) (ae : Option Addr) (ec : Nat) (ed : Ed) (fd : Bool) (n : Nv) (fn hb : Bool) : Prop where
  e1 : ∀ w', Frame [] w w' → Calls Try.prog 30 #[.pointer (some ⟨pb, 0, none⟩), .int .i64 t] w' (EdEnd ed fd w')
  e2 : ∀ w', Frame [] w w' → Calls Try.prog 46 #[.agg #[.slice an ns.length nc, .slice ae es.length ec, .int .i64 (g + 1)], .int .i64 t] w' (EdEnd ed fd w')
  n1 : ∀ w', Frame [] w w' → Calls Try.prog 47 #[.pointer (some ⟨pb, 0, none⟩), .int .i64 t] w' (NdEnd (fun _ => True) n fn w')
  n2 : ∀ w', Frame [] w w' → Calls Try.prog 48 #[.agg #[.slice an ns.length nc, .slice ae es.length ec, .int .i64 (g + 1)], .int .i64 t] w' (NdEnd (fun b => b < w.heap.size) n fn w')
  h1 : ∀ w', Frame [] w w' → Calls Try.prog 49 #[.pointer (some ⟨pb, 0, none⟩), .int .i64 t, .agg #[.string vr, .bool pr, .string nm, .string vl]] w' fun e w'' => e = .returned (.bool hb) ∧ Frame [] w' w''
  h2 : ∀ w', Frame [] w w' → Calls Try.prog 50 #[.agg #[.slice an ns.length nc, .slice ae es.length ec, .int .i64 (g + 1)], .int .i64 t, .agg #[.string vr, .bool pr, .string nm, .string vl]] w' fun e w'' => e = .returned (.bool hb) ∧ Frame [] w' w''
  l : n.2.1.length ≤ 8 ∧ n.2.2.length ≤ 8
theorem plays_facts {w0 w : World} {pb rb : Nat} {ns : List Nv} {es : List Ed} {g : Int} (h : BG w0 [] pb rb ns es g ns es (g + 1) w) (k : GOk ns es g) (t : Int) (vr nm vl : ByteArray) (pr : Bool) :
    ∃ an nc ae ec ed fd n fn hb, Blk w rb 82 #[.slice an ns.length nc, .slice ae es.length ec, .int .i64 (g + 1)] ∧ Plays w pb rb ns es g t vr nm vl pr an nc ae ec ed fd n fn hb := by
  obtain ⟨F, D, a, b, -⟩ := h
  obtain ⟨an, nc, ae, ec, hb, hn, he⟩ := b.parts
  have l1 := k.v.len
  have l2 := k.e.len
  obtain ⟨rs, ⟨FG, g1, g2, g3, -⟩, -⟩ := id a
  have l := nodeOf_ok k.v t
  refine ⟨an, nc, ae, ec, (edgeOf es t).1, (edgeOf es t).2, (nodeOf ns t).1, (nodeOf ns t).2, holdsV ns t pr nm vl, hb, ?_⟩
  refine ⟨fun w' f => (gedge_any (g1.frame0 f) k.e.up (by omega) t).mono fun e w'' h => h, fun w' f => ?_, fun w' f => (gnode_any (a.frame0 f) k.v t).mono fun e w'' h => NdEnd.of h (fun _ _ => trivial), fun w' f => (rnode_any (· ∈ D) an ae nc es.length ec ns (g + 1) t w' (hn.frame0 f) k.v.up (by omega)).mono fun e w'' h => NdEnd.of h (fun x hx => b.lts.2 x hx),
    fun w' f => gholds_any (a.frame0 f) k.v t vr nm vl pr, fun w' f => rholds_any (· ∈ D) an ae nc es.length ec ns (g + 1) t vr nm vl pr w' (hn.frame0 f) k.v.up (by omega) ⟨by omega, by omega⟩, l⟩
  refine (redge_any (· ∈ D) an ae ns.length nc ec es (g + 1) t w' (he.frame0 f) (by omega)).mono fun e w'' h => ?_
  rw [edOf_edgeOf k.e.up] at h
  exact h
theorem one_node {w : World} {b : Nat} {la pa : Option Addr} {lc pc : Nat} {n : Nv} (h : Blk w b 86 #[.int .i64 n.1, .slice la n.2.1.length lc, .slice pa n.2.2.length pc]) (h1 : RF (fun _ => True) w 1 encS la n.2.1) (h2 : RF (fun _ => True) w 2 Pr.cs pa n.2.2) :
    RG (fun _ => True) w (.agg #[.slice (some ⟨b, 0, none⟩) 1 1, .slice none 0 0, .int .i64 0]) ⟨[n], [], 0⟩ := by
  refine ⟨some ⟨b, 0, none⟩, 1, none, 0, rfl, fun k m hk => ?_, RF.nil _ _ _ _ _⟩
  cases k with
  | zero =>
    simp at hk; subst hk
    exact ⟨b, 0, la, lc, pa, pc, rfl, trivial, by simpa using h.at 0 rfl, by simpa using h.at 1 rfl, by simpa using h.at 2 rfl, h1, h2⟩
  | succ k => simp at hk
theorem one_short {n : Nv} (l : n.2.1.length ≤ 8 ∧ n.2.2.length ≤ 8) : (⟨[n], [], 0⟩ : Gx).Short := ⟨by simp, by simp, by simp; omega, by simp; omega⟩
theorem same_one {w : World} {b c : Nat} {la pa ka qa : Option Addr} {lc pc kc qc : Nat} {n : Nv} (l : n.2.1.length ≤ 8 ∧ n.2.2.length ≤ 8) (h : Blk w b 86 #[.int .i64 n.1, .slice la n.2.1.length lc, .slice pa n.2.2.length pc]) (h1 : RF (fun _ => True) w 1 encS la n.2.1) (h2 : RF (fun _ => True) w 2 Pr.cs pa n.2.2)
    (k : Blk w c 86 #[.int .i64 n.1, .slice ka n.2.1.length kc, .slice qa n.2.2.length qc]) (k1 : RF (fun _ => True) w 1 encS ka n.2.1) (k2 : RF (fun _ => True) w 2 Pr.cs qa n.2.2) :
    Calls Try.prog 42 #[.agg #[.slice (some ⟨b, 0, none⟩) 1 1, .slice none 0 0, .int .i64 0], .agg #[.slice (some ⟨c, 0, none⟩) 1 1, .slice none 0 0, .int .i64 0]] w fun e w' => e = .returned (.bool true) ∧ Frame [] w w' :=
  Ans.yes (rsame_any _ _ _ _ _ _ w (one_node h h1 h2) (one_node k k1 k2) (one_short l) (one_short l)) rfl
/-- .. without some edges. -/
theorem GOk.wo {ns : List Nv} {es : List Ed} {g : Int} (h : GOk ns es g) (ts : List Int) : GOk ns (esWo es ts) g := by
  have hs : (esWo es ts).Sublist es := List.filter_sublist
  exact ⟨h.v, ⟨h.e.up.sublist (hs.map _), fun e he => h.e.le e (hs.subset he), Nat.le_trans hs.length_le h.e.len, h.e.given0, h.e.given1⟩, h.nd, fun e he => h.ed e (hs.subset he)⟩
end Go.Proofs.Ytolkmapdbilolaa

namespace Go.Proofs.Ytolkmapdbilolaa
open Go.RowKit
set_option linter.unusedSimpArgs false
set_option linter.unusedVariables false

def PG (w : World) (pa pb : Nat) (na : List Nv) (ea : List Ed) (ga : Int) (nb : List Nv) (eb : List Ed) (gb : Int) (wr : World) : Prop :=
  ∃ Fa Fb, GV wr pa Fa na ea ga ∧ GV wr pb Fb nb eb gb ∧ Frame [] w wr ∧ (∀ x ∈ Fa, w.heap.size ≤ x) ∧ ∀ x ∈ Fb, w.heap.size ≤ x ∧ x ∉ Fa
section
variable {w wr w' : World} {pa pb : Nat} {na nb na' nb' : List Nv} {ea eb ea' eb' : List Ed} {ga gb ga' gb' : Int} {Fa Fb : List Nat}
theorem PG.frame (h : PG w pa pb na ea ga nb eb gb wr) : Frame [] w wr := by obtain ⟨_, _, _, _, f, _⟩ := h; exact f
theorem PG.quiet (h : PG w pa pb na ea ga nb eb gb wr) (q : Frame [] wr w') : PG w pa pb na ea ga nb eb gb w' := by
  obtain ⟨Fa, Fb, a, b, c, d, e⟩ := h
  exact ⟨Fa, Fb, a.frame0 q, b.frame0 q, c.trans1 q, d, e⟩
theorem PG.start {w1 w2 : World} (h : VOwn w pa na ea ga w1) (k : VOwn w1 pb nb eb gb w2) : PG w pa pb na ea ga nb eb gb w2 := by
  obtain ⟨Fa, a, f, n⟩ := h
  obtain ⟨Fb, b, g, m⟩ := k
  refine ⟨Fa, Fb, a.frame0 g, b, f.trans1 g, n, fun x hx => ⟨Nat.le_trans f.size (m x hx), fun hm => ?_⟩⟩
  have := a.lts x hm
  have := m x hx
  omega
theorem PG.fst (a : GV wr pa Fa na ea ga) (b : GV wr pb Fb nb eb gb) (c : Frame [] w wr) (d : ∀ x ∈ Fa, w.heap.size ≤ x) (e : ∀ x ∈ Fb, w.heap.size ≤ x ∧ x ∉ Fa) (h : GVEnd wr pa Fa na' ea' ga' w') : PG w pa pb na' ea' ga' nb eb gb w' := by
  obtain ⟨F', p, q, r⟩ := h
  have hz := c.size
  refine ⟨F', Fb, p, b.frame q (fun x hx => (e x hx).2), c.trans q (fun x hx => .inr (d x hx)), fun x hx => ?_, fun x hx => ⟨(e x hx).1, fun hm => ?_⟩⟩
  · rcases r x hx with h | h
    · exact d x h
    · omega
  · rcases r x hm with h | h
    · exact (e x hx).2 h
    · have := b.lts x hx; omega
theorem PG.snd (a : GV wr pa Fa na ea ga) (b : GV wr pb Fb nb eb gb) (c : Frame [] w wr) (d : ∀ x ∈ Fa, w.heap.size ≤ x) (e : ∀ x ∈ Fb, w.heap.size ≤ x ∧ x ∉ Fa) (h : GVEnd wr pb Fb nb' eb' gb' w') : PG w pa pb na ea ga nb' eb' gb' w' := by
  obtain ⟨F', p, q, r⟩ := h
  have hz := c.size
  refine ⟨Fa, F', a.frame q (fun x hx hm => (e x hm).2 hx), p, c.trans q (fun x hx => .inr (e x hx).1), d, fun x hx => ?_⟩
  rcases r x hx with h | h
  · exact e x h
  · exact ⟨by omega, fun hm => by have := a.lts x hm; omega⟩
theorem PG.label (h : PG w pa pb na ea ga nb eb gb wr) (hv : VOk na) (t : Int) (s : ByteArray) (hs : s.size ≤ 9223372036854775807) :
    Calls Try.prog 36 #[.pointer (some ⟨pa, 0, none⟩), .int .i64 t, .string s] wr fun e w' => e = .returned (.int .i64 (vLabel na t s).1) ∧ PG w pa pb (vLabel na t s).2 ea ga nb eb gb w' := by
  obtain ⟨Fa, Fb, a, b, c, d, e⟩ := h
  exact (gv_label a hv t s hs).mono fun _ w' ⟨h1, h2⟩ => ⟨h1, PG.fst a b c d e h2⟩
theorem PG.add (h : PG w pa pb na ea ga nb eb gb wr) (hv : VOk na) (he : EOk ea ga) (x : Int) (s : ByteArray) (y : Int) (hs : s.size ≤ 9223372036854775807) :
    Calls Try.prog 29 #[.pointer (some ⟨pa, 0, none⟩), .int .i64 x, .string s, .int .i64 y] wr fun e w' => e = .returned (.tuple #[.int .i64 (vAdd na ea ga x s y).1.1, .int .i64 (vAdd na ea ga x s y).1.2]) ∧ PG w pa pb na (vAdd na ea ga x s y).2.1 (vAdd na ea ga x s y).2.2 nb eb gb w' := by
  obtain ⟨Fa, Fb, a, b, c, d, e⟩ := h
  exact (gv_add a hv he x s y hs).mono fun _ w' ⟨h1, h2⟩ => ⟨h1, PG.fst a b c d e h2⟩
theorem PG.drop (h : PG w pa pb na ea ga nb eb gb wr) (he : EOk eb gb) (t : Int) :
    Calls Try.prog 31 #[.pointer (some ⟨pb, 0, none⟩), .int .i64 t] wr fun e w' => e = .returned (.int .i64 (vDrop eb t).1) ∧ PG w pa pb na ea ga nb (vDrop eb t).2 gb w' := by
  obtain ⟨Fa, Fb, a, b, c, d, e⟩ := h
  exact (gv_drop b he t).mono fun _ w' ⟨h1, h2⟩ => ⟨h1, PG.snd a b c d e h2⟩
end
theorem GOk.strX {ns : List Nv} {es : List Ed} {given : Int} (h : GOk ns es given) (n : Int) : StrX ⟨ns, es, n⟩ := by
  have hs : ∀ s, namedB s = true → s.size ≤ 9223372036854775807 := fun s hs => by simp [namedB] at hs; omega
  exact ⟨fun n hn => ⟨fun s h1 => hs s ((h.nd n hn).2.1 s h1), fun p hp => ⟨hs _ ((h.nd n hn).2.2 p hp).1, hs _ ((h.nd n hn).2.2 p hp).2⟩⟩, fun e he => hs _ (h.ed e he).1⟩
end Go.Proofs.Ytolkmapdbilolaa

namespace Go.Proofs.Ytolkmapdbilolaa
open Go.RowKit
set_option linter.unusedSimpArgs false
set_option linter.unusedVariables false

/-- A graph that a call has made for itself. -/
def GOwn (w : World) (pb : Nat) (ns : List Nd) (es : List Ed) (given : Int) (w' : World) : Prop := ∃ F, GSt w' pb F ns es given ∧ Frame [] w w' ∧ ∀ x ∈ F, w.heap.size ≤ x
theorem GOwn.next {w w1 w2 : World} {pb : Nat} {F : List Nat} {ns : List Nd} {es : List Ed} {given : Int} (hF : Frame [] w w1) (hn : ∀ x ∈ F, w.heap.size ≤ x) (h : GEnd w1 pb F ns es given w2) : GOwn w pb ns es given w2 := by
  obtain ⟨F', a, b, c⟩ := h
  exact ⟨F', a, hF.trans b (fun x hx => .inr (hn x hx)), fun x hx => by rcases c x hx with h | h; exact hn x h; have := hF.size; omega⟩
theorem GOwn.quiet {w w1 w2 : World} {pb : Nat} {ns : List Nd} {es : List Ed} {given : Int} (h : GOwn w pb ns es given w1) (f : Frame [] w1 w2) : GOwn w pb ns es given w2 := by
  obtain ⟨F, a, b, c⟩ := h
  exact ⟨F, a.frame0 f, b.trans1 f, c⟩
def sA : ByteArray := ⟨#[97]⟩

theorem fld_next (a : Option Addr) (n c : Nat) (b : Option Addr) (m d : Nat) (k : Int) (w : World) : (Instr.field 55 (.agg #[.slice a n c, .slice b m d, .int .i64 k]) 2).run Try.prog w = .ok (.int .i64 k) w := by kernel_rfl
set_option maxRecDepth 100000 in
theorem awake10 (w : World) : Calls Try.prog 26 #[] w fun e w' => e = .returned (.bool true) ∧ Frame [] w w' := by
  go_enter Try.func26, Try.ntmps26
  go_wp2_with fail
  refine (gnew_any _).mono ?_
  rintro e w1 ⟨pb, rfl, s1, f1, n1⟩
  have f1 : Frame [] w w1 := f1
  have n1 : ∀ x ∈ [pb], w.heap.size ≤ x := by simpa using n1
  go_wp2_with fail
  refine (addNode_end s1 (by simp [Up]) (by simp) 1 (by omega) (by omega) (by simp) (by simp [rank])).mono ?_
  rintro e w2 ⟨rfl, he⟩
  obtain ⟨F2, s2, f2, n2⟩ := GOwn.next f1 n1 he
  clear he s1 f1 n1
  go_wp2_with fail
  refine (addNode_end s2 (by simp [Up]) (by simp) 2 (by omega) (by omega) (by simp) (by simp [rank])).mono ?_
  rintro e w3 ⟨rfl, he⟩
  obtain ⟨F3, s3, f3, n3⟩ := GOwn.next f2 n2 he
  clear he s2 f2 n2
  go_wp2_with fail
  have hc := gadd_ok s3 (by simp [Up]) (by simp) (by simp) (by omega) (by omega) 1 2 ⟨#[97]⟩ (by decide) (by simp) (by simp)
  rw [show (0 : Int) + 1 = 1 from rfl] at hc
  refine hc.mono ?_
  clear hc
  rintro e w4 ⟨rfl, he⟩
  obtain ⟨F4, s4, f4, n4⟩ := GOwn.next f3 n3 he
  clear he s3 f3 n3
  go_wp2_with fail
  refine (gdrop_ok s4 (by simp [Up]) (by simp) 1 (by simp)).mono ?_
  rintro e w5 ⟨rfl, he⟩
  obtain ⟨F5, s5, f5, n5⟩ := GOwn.next f4 n4 he
  clear he s4 f4 n4
  go_wp2_with fail
  refine (addNode_dup s5 (by simp [Up]) (by simp) 1 (by omega) (by omega) (by simp)).mono ?_
  rintro e w6 ⟨rfl, f6⟩
  have s6 := s5.frame0 f6
  have f6' := f5.trans1 f6
  clear s5
  go_wp2_with fail
  have hc := gall_any [rn0 1, rn0 2] s6 (by intro r hr; simp at hr; rcases hr with rfl | rfl <;> exact rn0_ok _ _) (by simp) (by simp [rank]) (by omega)
  rw [show (1 : Int) + 1 = 2 from rfl] at hc
  refine hc.mono ?_
  clear hc
  rintro e w7 ⟨rs', an, nc, ae, ec, G, H, rfl, -, -, -, -, f7, -⟩
  have fd := fld_next
  go_wp2_with fail
  go_ret
  exact ⟨rfl, f6'.trans1 f7⟩

end Go.Proofs.Ytolkmapdbilolaa

