/- append of what is read, wherever it lies. The reference's graph in memory. The reference's AddNode. -/
import Derived.Test.YtjcajidgaejhoaaGreatMi15
import Derived.Deep.AppendLies
import Derived.Laws.OwnMore
import Derived.Test.YtjcajidgaejhoaaGreatMi26
import Derived.Test.YtjcajidgaejhoaaGreatMi08
import Derived.BigRegion
namespace Go.Proofs.YtjcajidgaejhoaaGreat
open Go.RowKit
set_option linter.unusedSimpArgs false
set_option linter.unusedVariables false

theorem addr_add (b off j : Nat) : (⟨b, off, none⟩ : Addr).add j = ⟨b, off + j, none⟩ := by
  unfold Addr.add; split <;> simp_all
theorem RF.flat {α : Type} {U : Nat → Prop} {w : World} {sz : Nat} {enc : α → List Value} {b off : Nat} {xs : List α} (h : RF U w sz enc (some ⟨b, off, none⟩) xs) (hsz : ∀ x, (enc x).length = sz) : ∀ j u, (xs.flatMap enc)[j]? = some u → w.cell? ((⟨b, off, none⟩ : Addr).add j) = some u := fun j u hj => by
  have hl := (List.getElem?_eq_some_iff.1 hj).1
  rw [flat_len hsz] at hl
  have h0 : 0 < sz := by rcases Nat.eq_zero_or_pos sz with h | h; subst h; simp at hl; exact h
  have hk : j / sz < xs.length := (Nat.div_lt_iff_lt_mul h0).2 hl
  have hi : j % sz < sz := Nat.mod_lt _ h0
  have e : j / sz * sz + j % sz = j := by rw [Nat.mul_comm]; exact Nat.div_add_mod _ _
  have hx : xs[j / sz]? = some xs[j / sz] := by simp [hk]
  have hi' : j % sz < (enc xs[j / sz]).length := by rw [hsz]; exact hi
  have hu : (enc xs[j / sz])[j % sz]? = some (enc xs[j / sz])[j % sz] := by simp [hi']
  have hf := flat_get hsz hx hu
  rw [e, hj] at hf
  simp at hf
  obtain ⟨b', off', e1, _, hc⟩ := h _ _ hx
  simp at e1
  obtain ⟨rfl, rfl⟩ := e1
  have := hc _ _ hu
  rw [addr_add, hf]
  rw [← this]
  congr 2
  omega

theorem run_append_zero {P : Program} {w : World} (base : Nat) (t ty e : TypeId) (i : TypeInfo) (size : Nat) (ht : P.underlying t = some (.slice e)) (hi : P.info? e = some i)
    (v : Value) (n : Nat) (xs : List Value) (hown : w.ownsRow base e size v n xs) (a : Option Addr) (c : Nat) :
    (Builtin.append_ #[t, t] ty #[v, .slice a 0 c]).run P w = .ok v w := by
  have hf : ∀ sz, (Builtin.firstCells sz 0 (.slice a 0 c)).run P w = .ok #[] w := fun sz => by
    cases a with
    | none => simp [Builtin.firstCells]
    | some p => exact run_firstCells_some (P := P) w sz 0 p 0 c [] (by simp) (by simp)
  rcases hown.2 with ⟨rfl, rfl⟩ | ⟨g, cap, cur, rfl, _, _, hnc, _⟩
  · simp [Builtin.append_, run_underlying ht, sizeOf, typeInfo, hi, Builtin.lenOf, hf]
  · simp [Builtin.append_, run_underlying ht, sizeOf, typeInfo, hi, Builtin.lenOf, hf, hnc, storeCells]

/-- What an append of what is read leaves: by lists. -/
def AppK {α : Type} (w : World) (e sz : Nat) (enc : α → List Value) (N : Nat) (zs : List α) (G : List Nat) (K : Value → World → Prop) : Prop :=
  ∀ a' cap' w' G', Sl w' e sz enc (.slice a' N cap') zs G' → Frame G w w' → (∀ x ∈ G', x ∈ G ∨ w.heap.size ≤ x) → K (.slice a' N cap') w'
theorem wp_append_rf {α : Type} {P : Program} {w : World} {o : Oper} {a : Act} {K : Act → World → Prop} {Q : Exit → Act → World → Prop}
    (s x : Operand) (t : TypeId) (hop : o.op = Op.call { callee := Callee.builtin Builtin.append, args := #[s, x], argTypes := #[t, t] })
    (e sz bytes : Nat) (z : Value) (enc : α → List Value) (h1 : P.underlying t = some (.slice e)) (hi : (P.info? e).map (fun i => (i.zero, i.size, i.bytes)) = some (some z, sz, bytes)) (h6 : z.cells.size = sz) (h7 : 0 < sz)
    (v : Value) (xs : List α) (n : Nat) (hln : xs.length = n) (G : List Nat) (hs : a.eval s = v) (hown : Sl w e sz enc v xs G)
    (U : Nat → Prop) (ad : Option Addr) (m c : Nat) (ys : List α) (hx : a.eval x = .slice ad m c) (hr : RF U w sz enc ad ys) (hm : ys.length = m) (hsz : ∀ x, (enc x).length = sz) (h1c : ∀ x, ∀ u ∈ enc x, u.oneCell' = true)
    (N : Nat) (hN : n + m = N) (b1 : N ≤ 1073741824) (b2 : bytes ≤ 1024)
    (hK : AppK w e sz enc N (xs ++ ys) G fun v' w' => K (a.put o.dst v') w') : o.wp P a w K Q := by
  subst hN
  subst hln
  obtain ⟨i0, h2, h3, h4, h5⟩ := info_parts hi
  rcases Nat.eq_zero_or_pos m with h0 | h0
  · subst h0
    have hys : ys = [] := List.eq_nil_of_length_eq_zero hm
    subst hys
    obtain ⟨a', cap', hv⟩ := hown.form
    have hrun := run_append_zero (P := P) 0 t o.type e i0 sz h1 h2 v xs.length (xs.flatMap enc) hown.owns ad c
    unfold Oper.wp execOp
    simp only [hop, resolve, invoke, builtin, Sem.run_bind, Sem.run_pure, Result.andThen_ok, List.map_toArray, List.map_cons, List.map_nil, hs, hx, hrun]
    subst hv
    exact hK a' cap' w G (by simpa using hown) (Frame.refl _ _) (fun x hx => .inl hx)
  · rcases hr.one with h | ⟨b, off, hb, _, _⟩
    · subst h; simp at hm; omega
    · subst hb
      refine wp_append_lies w s x t hop 0 e i0 z sz bytes h1 h2 h3 h4 h5 h6 h7 v xs.length (xs.flatMap enc) hs hown.owns ⟨b, off, none⟩ m c (ys.flatMap enc) hx (by rw [flat_len hsz, hm]) (hr.flat hsz) ?_ h0 (by unfold maxLen; omega) ?_ (Nat.zero_le _) _ rfl ?_
      · intro u hu
        obtain ⟨y, _, hy⟩ := List.mem_flatMap.1 hu
        exact h1c y u hy
      · calc (xs.length + m) * bytes ≤ 1073741824 * 1024 := Nat.mul_le_mul b1 b2
          _ ≤ 140737488355328 := by omega
      · intro g cap' w' q1 q2 q3 q4
        refine hK _ cap' w' [g] (.inr ⟨g, cap', by simp [hm], rfl, ?_⟩) (Frame.of_grown q2 (fun k hk => by rw [hown.own_block k hk]; simp)) ?_
        · have : RowAt w' g e sz (xs.length + m) cap' (xs.flatMap enc ++ ys.flatMap enc) := q1
          simpa [hm] using this
        · intro x hx
          simp at hx; subst hx
          rcases q3 with h | h
          · left; rw [hown.own_block x h]; simp
          · right; omega
theorem wpList_append_rf {α : Type} {P : Program} {w : World} {ops : Array Oper} {rest : List Oper} {o : Oper} {a : Act} {Q : Exit → Act → World → Prop}
    (hg : o.guard = none) (s x : Operand) (t : TypeId) (hop : o.op = Op.call { callee := Callee.builtin Builtin.append, args := #[s, x], argTypes := #[t, t] })
    (e sz bytes : Nat) (z : Value) (enc : α → List Value) (h1 : P.underlying t = some (.slice e)) (hi : (P.info? e).map (fun i => (i.zero, i.size, i.bytes)) = some (some z, sz, bytes)) (h6 : z.cells.size = sz) (h7 : 0 < sz)
    (v : Value) (xs : List α) (n : Nat) (hln : xs.length = n) (G : List Nat) (hs : a.eval s = v) (hown : Sl w e sz enc v xs G)
    (U : Nat → Prop) (ad : Option Addr) (m c : Nat) (ys : List α) (hx : a.eval x = .slice ad m c) (hr : RF U w sz enc ad ys) (hm : ys.length = m) (hsz : ∀ x, (enc x).length = sz) (h1c : ∀ x, ∀ u ∈ enc x, u.oneCell' = true)
    (N : Nat) (hN : n + m = N) (b1 : N ≤ 1073741824) (b2 : bytes ≤ 1024)
    (hK : AppK w e sz enc N (xs ++ ys) G fun v' w' => wpList P ops Q rest (a.put o.dst v') w') : wpList P ops Q (o :: rest) a w :=
  wpList_plain hg fun K hK' => wp_append_rf s x t hop e sz bytes z enc h1 hi h6 h7 v xs n hln G hs hown U ad m c ys hx hr hm hsz h1c N hN b1 b2 (fun a' cap' w' G' q1 q2 q3 => hK' _ _ (hK a' cap' w' G' q1 q2 q3))
/-- One element in a block of its own. -/
theorem rf_one {α : Type} {w : World} {b T sz : Nat} {enc : α → List Value} {cs : Array Value} (h : Blk w b T cs) (x : α) (hx : cs.toList = enc x) : RF (fun y => y = b) w sz enc (some ⟨b, 0, none⟩) [x] := fun k y hy => by
  cases k with
  | zero =>
    simp at hy
    subst hy
    refine ⟨b, 0, rfl, rfl, fun j u hu => ?_⟩
    rw [← hx] at hu
    have := h.at j (v := u) (by simpa using hu)
    simpa using this
  | succ k => simp at hy
/-- An empty row that has just been made. -/
theorem sl_empty {α : Type} (w : World) (e sz : Nat) (enc : α → List Value) : Sl (w.alloc (.cells #[] e)) e sz enc (.slice (some ⟨w.heap.size, 0, none⟩) 0 0) [] [w.heap.size] :=
  .inr ⟨w.heap.size, 0, rfl, rfl, RowAt.of_blk (Blk.new w e #[]) (Nat.zero_le _) (Nat.zero_le _) (by simp) (by simp)⟩
end Go.Proofs.YtjcajidgaejhoaaGreat

namespace Go.Proofs.YtjcajidgaejhoaaGreat
open Go.RowKit
set_option linter.unusedSimpArgs false
set_option linter.unusedVariables false

/-- A node with what its two slices are read as. -/
structure Zn where
  nd : Nd
  ls : List ByteArray
  ps : List Pr
def Zn.enc (z : Zn) : List Value := z.nd.cs
def Zn.v (z : Zn) : Nv := (z.nd.id, z.ls, z.ps)
theorem zn_len (z : Zn) : z.enc.length = 3 := rfl
theorem zn_one (z : Zn) : ∀ u ∈ z.enc, u.oneCell' = true := nd_one z.nd
def Zn.ok (U : Nat → Prop) (w : World) (z : Zn) : Prop := z.nd.ln = z.ls.length ∧ z.nd.pn = z.ps.length ∧ RF U w 1 encS z.nd.la z.ls ∧ RF U w 2 Pr.cs z.nd.pa z.ps
section
variable {U U' : Nat → Prop} {w w' : World} {S : List Nat}
theorem Zn.ok_frame {z : Zn} (h : z.ok U w) (f : Frame S w w') (hS : ∀ b, U b → b ∉ S) : z.ok U w' := ⟨h.1, h.2.1, h.2.2.1.frame f hS, h.2.2.2.frame f hS⟩
theorem Zn.ok_mono {z : Zn} (h : z.ok U w) (hU : ∀ b, U b → U' b) : z.ok U' w := ⟨h.1, h.2.1, h.2.2.1.mono hU, h.2.2.2.mono hU⟩
theorem rn_of_zn {a : Option Addr} {zs : List Zn} (h : RF U w 3 Zn.enc a zs) (hz : ∀ z ∈ zs, z.ok U w) : RN U w a (zs.map Zn.v) := fun k n hn => by
  rw [List.getElem?_map] at hn
  obtain ⟨z, h1, rfl⟩ := Option.map_eq_some_iff.1 hn
  obtain ⟨b, off, e1, e2, e3⟩ := h k z h1
  obtain ⟨o1, o2, o3, o4⟩ := hz z (List.mem_of_getElem? h1)
  have c0 := e3 0 _ rfl
  have c1 := e3 1 _ rfl
  have c2 := e3 2 _ rfl
  rw [o1] at c1
  rw [o2] at c2
  exact ⟨b, off, _, _, _, _, e1, e2, by simpa [Zn.v] using c0, c1, c2, o3, o4⟩
end

theorem Sl.cap {α : Type} {w : World} {e sz n c : Nat} {enc : α → List Value} {a : Option Addr} {xs : List α} {G : List Nat} (h : Sl w e sz enc (.slice a n c) xs G) : n ≤ c ∧ c ≤ 9223372036854775807 := by
  rcases h with ⟨h1, _, _⟩ | ⟨b, cap, h1, _, hr⟩
  · injection h1 with _ h2 h3; subst h2 h3; omega
  · injection h1 with _ h2 h3
    subst h2 h3
    obtain ⟨_, _, q1, q2, _⟩ := hr.blk
    unfold maxLen at q2
    exact ⟨q1, by omega⟩
/-- The reference's graph at block rb; D: the blocks that it is read from. -/
def RGz (w : World) (rb : Nat) (D : List Nat) (zs : List Zn) (es : List Ed) (next : Int) : Prop :=
  rb ∉ D ∧ (∀ x ∈ D, x < w.heap.size) ∧ (∀ z ∈ zs, z.ok (· ∈ D) w) ∧ ∃ an nc ae ec, Blk w rb 101 #[.slice an zs.length nc, .slice ae es.length ec, .int .i64 next] ∧ RF (· ∈ D) w 3 Zn.enc an zs ∧ RF (· ∈ D) w 4 Ed.cs ae es ∧ zs.length ≤ nc ∧ nc ≤ 9223372036854775807
def RGv (w : World) (rb : Nat) (D : List Nat) (ns : List Nv) (es : List Ed) (next : Int) : Prop := ∃ zs, RGz w rb D zs es next ∧ zs.map Zn.v = ns
def RGEnd (w : World) (rb : Nat) (D : List Nat) (ns : List Nv) (es : List Ed) (next : Int) (w' : World) : Prop := ∃ D', RGv w' rb D' ns es next ∧ Frame [rb] w w' ∧ ∀ x ∈ D', x ∈ D ∨ w.heap.size ≤ x
section
variable {w w' : World} {rb : Nat} {D S : List Nat} {zs : List Zn} {ns : List Nv} {es : List Ed} {next : Int}
theorem RGz.frame (h : RGz w rb D zs es next) (f : Frame S w w') (hS : ∀ x ∈ rb :: D, x ∉ S) : RGz w' rb D zs es next := by
  obtain ⟨h1, h2, h3, an, nc, ae, ec, h4, h5, h6, h7⟩ := h
  have hD : ∀ b, b ∈ D → b ∉ S := fun b hb => hS b (by simp [hb])
  exact ⟨h1, fun x hx => Nat.lt_of_lt_of_le (h2 x hx) f.size, fun z hz => Zn.ok_frame (h3 z hz) f hD, an, nc, ae, ec, h4.frame f (hS rb (by simp)), h5.frame f hD, h6.frame f hD, h7⟩
theorem RGv.frame (h : RGv w rb D ns es next) (f : Frame S w w') (hS : ∀ x ∈ rb :: D, x ∉ S) : RGv w' rb D ns es next := by
  obtain ⟨zs, a, b⟩ := h; exact ⟨zs, a.frame f hS, b⟩
theorem RGv.frame0 (h : RGv w rb D ns es next) (f : Frame [] w w') : RGv w' rb D ns es next := h.frame f (by simp)
theorem RGz.lt (h : RGz w rb D zs es next) : ∀ x ∈ rb :: D, x < w.heap.size := by
  obtain ⟨h1, h2, h3, an, nc, ae, ec, h4, h5, h6, h7⟩ := h
  intro x hx
  rcases List.mem_cons.1 hx with rfl | hx
  · exact h4.lt
  · exact h2 x hx
theorem RGv.lt (h : RGv w rb D ns es next) : ∀ x ∈ rb :: D, x < w.heap.size := by obtain ⟨zs, a, b⟩ := h; exact a.lt
theorem RGEnd.quiet (h : RGv w rb D ns es next) (f : Frame [] w w') : RGEnd w rb D ns es next w' := ⟨D, h.frame0 f, f.mono (by simp), fun x hx => .inl hx⟩
theorem RGEnd.behind {w1 : World} (f : Frame [] w w1) (h : RGEnd w1 rb D ns es next w') : RGEnd w rb D ns es next w' := by
  obtain ⟨D', a, b, c⟩ := h
  exact ⟨D', a, (f.mono (by simp)).trans1 b, fun x hx => by rcases c x hx with h | h; exact .inl h; right; have := f.size; omega⟩
/-- As a value that is handed on. -/
theorem RGz.rg (h : RGz w rb D zs es next) : ∃ an nc ae ec, Blk w rb 101 #[.slice an (zs.map Zn.v).length nc, .slice ae es.length ec, .int .i64 next] ∧ RG (· ∈ D) w (.agg #[.slice an (zs.map Zn.v).length nc, .slice ae es.length ec, .int .i64 next]) ⟨zs.map Zn.v, es, next⟩ := by
  obtain ⟨h1, h2, h3, an, nc, ae, ec, h4, h5, h6, h7⟩ := h
  exact ⟨an, nc, ae, ec, by rw [List.length_map]; exact h4, an, nc, ae, ec, rfl, rn_of_zn h5 h3, h6⟩
theorem RGv.rg (h : RGv w rb D ns es next) : ∃ an nc ae ec, Blk w rb 101 #[.slice an ns.length nc, .slice ae es.length ec, .int .i64 next] ∧ RG (· ∈ D) w (.agg #[.slice an ns.length nc, .slice ae es.length ec, .int .i64 next]) ⟨ns, es, next⟩ := by
  obtain ⟨zs, a, rfl⟩ := h; exact a.rg
theorem rgnew_any (w : World) : Calls Tryz.prog 56 #[] w fun e w' => ∃ rb, e = .returned (.pointer (some ⟨rb, 0, none⟩)) ∧ RGv w' rb [] [] [] 1 ∧ Frame [] w w' ∧ w.heap.size ≤ rb := by
  go_enter Tryz.func56, Tryz.ntmps56
  go_wp2
  go_ret
  exact ⟨_, rfl, ⟨[], ⟨by simp, by simp, by simp, none, 0, none, 0, Blk.new _ _ _, RF.nil _ _ _ _ _, RF.nil _ _ _ _ _, by simp⟩, rfl⟩, Frame.alloc _ _ _, Nat.le_refl _⟩
/-- A new row of nodes put in the place of the old one. -/
theorem RGz.setNodes {w1 : World} (h : RGz w rb D zs es next) (f : Frame [] w w1) {zs' : List Zn} {a' : Option Addr} {n' c' : Nat} {G : List Nat} (hs : Sl w1 41 3 Zn.enc (.slice a' n' c') zs' G) (hn : zs'.length = n') (hG : ∀ x ∈ G, w.heap.size ≤ x) (hz : ∀ z ∈ zs', z.ok (fun b => b ∈ D ∨ (w.heap.size ≤ b ∧ b < w1.heap.size)) w1) (hrb : rb < w.heap.size) :
    RGEnd w rb D (zs'.map Zn.v) es next (w1.setCell ⟨rb, 0, none⟩ (.slice a' n' c')) := by
  subst hn
  obtain ⟨h1, h2, h3, an, nc, ae, ec, h4, h5, h6, h7⟩ := h
  have fs : Frame [rb] w1 (w1.setCell ⟨rb, 0, none⟩ (.slice a' zs'.length c')) := Frame.setCell _ _ _ (by simp)
  refine ⟨D ++ (List.range w1.heap.size).filter (fun x => decide (w.heap.size ≤ x)), ⟨zs', ⟨?_, ?_, ?_, a', c', ae, ec, ?_, ?_, ?_, hs.cap⟩, rfl⟩, (f.mono (by simp)).trans1 fs, ?_⟩
  · simp only [List.mem_append, List.mem_filter, List.mem_range, decide_eq_true_eq, not_or]
    exact ⟨h1, fun hm => by omega⟩
  · intro x hx
    simp only [List.mem_append, List.mem_filter, List.mem_range, decide_eq_true_eq] at hx
    have hz := fs.size
    rcases hx with hx | hx
    · have := h2 x hx; have := f.size; omega
    · omega
  · intro z hz'
    refine Zn.ok_frame (Zn.ok_mono (hz z hz') (fun b hb => ?_)) fs (fun b hb hm => ?_)
    · simp only [List.mem_append, List.mem_filter, List.mem_range, decide_eq_true_eq]
      rcases hb with hb | hb
      · exact .inl hb
      · exact .inr ⟨hb.2, hb.1⟩
    · simp only [List.mem_append, List.mem_filter, List.mem_range, decide_eq_true_eq] at hb
      simp at hm
      subst hm
      rcases hb with hb | hb
      · exact h1 hb
      · omega
  · have := (h4.frame f (by simp)).set 0 (.slice a' zs'.length c')
    simpa using this
  · refine (hs.rf zn_len (U := (· ∈ G)) (fun x hx => hx)).frame fs (fun b hb hm => ?_) |>.mono (fun b hb => ?_)
    · simp at hm; subst hm; have := hG _ hb; omega
    · simp only [List.mem_append, List.mem_filter, List.mem_range, decide_eq_true_eq]
      exact .inr ⟨hs.lt b hb, hG b hb⟩
  · refine ((h6.frame0 f).frame fs (fun b hb hm => ?_)).mono (fun b hb => by simp; exact .inl hb)
    simp at hm; subst hm; exact h1 hb
  · intro x hx
    simp only [List.mem_append, List.mem_filter, List.mem_range, decide_eq_true_eq] at hx
    rcases hx with hx | hx
    · exact .inl hx
    · exact .inr hx.2
end
end Go.Proofs.YtjcajidgaejhoaaGreat

namespace Go.Proofs.YtjcajidgaejhoaaGreat
open Go.RowKit
set_option linter.unusedSimpArgs false
set_option linter.unusedVariables false

theorem RowAt.set {w : World} {b e sz n cap : Nat} {xs : List Value} (h : RowAt w b e sz n cap xs) (i : Nat) (v : Value) : RowAt (w.setCell ⟨b, i, none⟩ v) b e sz n cap (xs.set i v) := by
  obtain ⟨cs, h1, h2, h3, h4, h5⟩ := h.blk
  exact RowAt.of_blk (h1.set i v) h2 h3 (by simpa using h4) (by rw [Array.toList_setIfInBounds, List.take_set, h5])
theorem swap_list (PA PB : List Value) (x0 x1 x2 y0 y1 y2 : Value) (m : Nat) (hm : PA.length = m * 3) :
    (((((((PA ++ x0 :: x1 :: x2 :: y0 :: y1 :: y2 :: PB).set ((m + 1) * 3) x0).set ((m + 1) * 3 + 1) x1).set ((m + 1) * 3 + 2) x2).set (m * 3) y0).set (m * 3 + 1) y1).set (m * 3 + 2) y2) = PA ++ y0 :: y1 :: y2 :: x0 :: x1 :: x2 :: PB := by
  have e1 : (m + 1) * 3 = PA.length + 3 := by omega
  have e2 : (m + 1) * 3 + 1 = PA.length + 4 := by omega
  have e3 : (m + 1) * 3 + 2 = PA.length + 5 := by omega
  have e4 : m * 3 = PA.length + 0 := by omega
  rw [e2, e3, e1, e4]
  simp [List.set_append]
theorem zs_at {zs : List Zn} {z : Zn} {k : Nat} (hk : k ≤ zs.length) : (zs.take k ++ z :: zs.drop k)[k]? = some z := by
  rw [List.getElem?_append_right (by simp; omega)]
  simp [Nat.min_eq_left hk]
theorem zs_prev {zs : List Zn} {z : Zn} {m : Nat} (hk : m + 1 ≤ zs.length) : (zs.take (m + 1) ++ z :: zs.drop (m + 1))[m]? = some (zs[m]'(by omega)) := by
  rw [List.getElem?_append_left (by simp; omega)]
  simp [List.getElem?_take]
theorem zs_swap {zs : List Zn} {z : Zn} {m : Nat} (hk : m + 1 ≤ zs.length) : ∃ PA PB : List Value, PA.length = m * 3 ∧ (zs.take (m + 1) ++ z :: zs.drop (m + 1)).flatMap Zn.enc = PA ++ (zs[m]'(by omega)).enc ++ (z.enc ++ PB) ∧ (zs.take m ++ z :: zs.drop m).flatMap Zn.enc = PA ++ z.enc ++ ((zs[m]'(by omega)).enc ++ PB) := by
  refine ⟨(zs.take m).flatMap Zn.enc, (zs.drop (m + 1)).flatMap Zn.enc, ?_, ?_, ?_⟩
  · rw [flat_len zn_len]; simp; omega
  · rw [take_one' (show zs[m]? = some (zs[m]'(by omega)) by simp)]
    simp only [List.flatMap_append, List.flatMap_cons, List.flatMap_nil, List.append_nil, List.append_assoc]
  · rw [List.drop_eq_getElem_cons (by omega : m < zs.length)]
    simp only [List.flatMap_append, List.flatMap_cons, List.append_assoc]
def zn0 (t : Int) : Zn := ⟨nd0 t, [], []⟩
theorem zn0_ok (U : Nat → Prop) (w : World) (t : Int) : (zn0 t).ok U w := ⟨rfl, rfl, RF.nil _ _ _ _ _, RF.nil _ _ _ _ _⟩

set_option maxHeartbeats 8000000 in
set_option maxRecDepth 100000 in
theorem rg_addNode {w : World} {rb : Nat} {D : List Nat} {ns : List Nv} {es : List Ed} {next : Int} (h : RGv w rb D ns es next) (hv : VOk ns) (t : Int) :
    Calls Tryz.prog 57 #[.pointer (some ⟨rb, 0, none⟩), .int .i64 t] w fun e w' => e = .returned (.int .i64 (vAddNode ns t).1) ∧ RGEnd w rb D (vAddNode ns t).2 es next w' := by
  have H0 := Lib.hid h
  have hup := hv.up
  have hlen := hv.len
  obtain ⟨zs, hz, hns⟩ := h
  have hl : zs.length = ns.length := by rw [← hns, List.length_map]
  obtain ⟨m1, m2, m3, an, nc, ae, ec, hb, m5, m6, -⟩ := id hz
  rw [hl] at hb
  have hrn : RN (· ∈ D) w an ns := by rw [← hns]; exact rn_of_zn m5 m3
  have c0 := hb.at 0 rfl
  have c1 := hb.at 1 rfl
  have c2 := hb.at 2 rfl
  have HPL := Lib.hid (fun w' (f : Frame [] w w') => place_any (· ∈ D) an ae nc es.length ec ns next t w' (hrn.frame0 f) (by omega))
  have HB := Lib.hid hb
  have HZ := Lib.hid hz
  have HNS := Lib.hid hns
  have HL := Lib.hid hl
  have HM := Lib.hid (And.intro m1 (And.intro m2 (And.intro m3 m5)))
  clear hb hrn hz hns hl m1 m2 m3 m5 m6
  by_cases q0 : t < 1
  case pos =>
    have e : vAddNode ns t = (1, ns) := by unfold vAddNode; rw [if_pos (.inl q0)]
    rw [e]
    clear e
    have hd : decide (t < 1) = true := by simpa using q0
    go_enter Tryz.func57, Tryz.ntmps57
    go_wp2_with fail
    go_ret
    exact ⟨rfl, RGEnd.quiet H0.out (by (repeat first | assumption | exact Frame.refl _ _ | refine Frame.trans1 ?_ (Frame.alloc _ _ _) | refine Frame.trans1 ?_ (Frame.drew _ _) | refine Frame.trans1 ?_ (Frame.drewN _ _ _)))⟩
  by_cases q1 : 1000 < t
  case pos =>
    have e : vAddNode ns t = (1, ns) := by unfold vAddNode; rw [if_pos (.inr q1)]
    rw [e]
    clear e
    have hd0 : decide (t < 1) = false := by simpa using q0
    have hd : decide (1000 < t) = true := by simpa using q1
    go_enter Tryz.func57, Tryz.ntmps57
    go_wp2_with fail
    go_ret
    exact ⟨rfl, RGEnd.quiet H0.out (by (repeat first | assumption | exact Frame.refl _ _ | refine Frame.trans1 ?_ (Frame.alloc _ _ _) | refine Frame.trans1 ?_ (Frame.drew _ _) | refine Frame.trans1 ?_ (Frame.drewN _ _ _)))⟩
  have hd0 : decide (t < 1) = false := by simpa using q0
  have hd1 : decide (1000 < t) = false := by simpa using q1
  by_cases q2 : t ∈ ns.map (·.1)
  case pos =>
    have e : vAddNode ns t = (7, ns) := by unfold vAddNode; rw [if_neg (by omega), if_pos q2]
    rw [e]
    clear e
    have hp := placeV_mem.2 q2
    have hd : decide (0 ≤ placeV ns t) = true := by simpa using hp
    clear q2
    go_enter Tryz.func57, Tryz.ntmps57
    go_wp2_with fail
    refine (HPL.out _ (by (repeat first | assumption | exact Frame.refl _ _ | refine Frame.trans1 ?_ (Frame.alloc _ _ _) | refine Frame.trans1 ?_ (Frame.drew _ _) | refine Frame.trans1 ?_ (Frame.drewN _ _ _)))).mono ?_
    rintro e w3 ⟨rfl, f3⟩
    have F3 := Lib.hid f3
    clear f3
    go_wp2_with fail
    go_ret
    exact ⟨rfl, RGEnd.quiet H0.out F3.out⟩
  have hp : ¬ 0 ≤ placeV ns t := fun h => q2 (placeV_mem.1 h)
  have hd2 : decide (0 ≤ placeV ns t) = false := by simpa using hp
  by_cases q3 : 12 ≤ ns.length
  case pos =>
    have e : vAddNode ns t = (5, ns) := by unfold vAddNode; rw [if_neg (by omega), if_neg q2, if_pos q3]
    rw [e]
    clear e
    have hd : decide ((12 : Int) ≤ ns.length) = true := by simp; omega
    clear q2
    go_enter Tryz.func57, Tryz.ntmps57
    go_wp2_with fail
    refine (HPL.out _ (by (repeat first | assumption | exact Frame.refl _ _ | refine Frame.trans1 ?_ (Frame.alloc _ _ _) | refine Frame.trans1 ?_ (Frame.drew _ _) | refine Frame.trans1 ?_ (Frame.drewN _ _ _)))).mono ?_
    rintro e w3 ⟨rfl, f3⟩
    have d0 := (HB.out.frame f3 (by simp)).at 0 rfl
    have F3 := Lib.hid f3
    clear f3
    go_wp2_with fail
    go_ret
    exact ⟨rfl, RGEnd.quiet H0.out F3.out⟩
  have e : vAddNode ns t = (0, ns.take (rank (ns.map (·.1)) t) ++ (t, [], []) :: ns.drop (rank (ns.map (·.1)) t)) := by unfold vAddNode; rw [if_neg (by omega), if_neg q2, if_neg q3]
  rw [e]
  clear e
  have hd3 : decide ((12 : Int) ≤ ns.length) = false := by simp; omega
  have HQ := Lib.hid (And.intro hup q2)
  clear hup q2
  go_enter Tryz.func57, Tryz.ntmps57
  go_wp2_with fail
  refine (HPL.out _ (by (repeat first | assumption | exact Frame.refl _ _ | refine Frame.trans1 ?_ (Frame.alloc _ _ _) | refine Frame.trans1 ?_ (Frame.drew _ _) | refine Frame.trans1 ?_ (Frame.drewN _ _ _)))).mono ?_
  rintro e w3 ⟨rfl, f3⟩
  have d0 := (HB.out.frame f3 (by simp)).at 0 rfl
  have F3 := Lib.hid f3
  have hrf := (HM.out.2.2.2.frame0 F3.out).frame0 (Frame.alloc [] w3 (.cells #[] 41))
  have d0a : (w3.alloc (.cells #[] 41)).cell? ⟨rb, 0, none⟩ = some (.slice an ns.length nc) := ((HB.out.frame f3 (by simp)).alloc _).at 0 rfl
  have HRF := Lib.hid hrf
  clear f3 hrf c0 c1 c2 hd0 hd1 hd2 hd3
  have hd3 : decide ((12 : Int) ≤ ns.length) = false := by simp; omega
  go_wp2_with (first
    | (at_builtin; refine wpList_append_rf rfl (.tmp 30) (.tmp 35) 22 rfl 41 3 56 _ Zn.enc Tryz.underlying22 infoNode rfl (by omega) _ [] 0 rfl [w3.heap.size] rfl (sl_empty _ _ _ _) (· ∈ D) _ _ _ zs rfl HRF.out HL.out zn_len zn_one ns.length (by omega) (by omega) (by omega) ?_; intro a4 cap4 w4 G4 sl4 f4 hG4)
    | (at_builtin; refine wpList_append_rf rfl (.tmp 37) (.tmp 40) 22 rfl 41 3 56 _ Zn.enc Tryz.underlying22 infoNode rfl (by omega) _ ([] ++ zs) ns.length HL.out G4 rfl (sl4.frame0 (Frame.alloc _ _ _)) (fun y => y = w4.heap.size) _ 1 1 [zn0 t] rfl (rf_one (Blk.new _ _ _) _ rfl) rfl zn_len zn_one (ns.length + 1) rfl (by omega) (by omega) ?_; intro a5 cap5 w5 G5 sl5 f5 hG5))
  have sl6 : Sl w5 41 3 Zn.enc (.slice a5 (ns.length + 1) cap5) (zs ++ zn0 t :: []) G5 := by simpa using sl5
  obtain ⟨b5, c5, hv5, rfl, row5⟩ := sl6.row
  injection hv5 with hv51 hv52 hv53
  subst hv51 hv53
  have hl2 : (zs ++ zn0 t :: []).length = ns.length + 1 := by have := HL.out; simp; omega
  rw [hl2] at row5
  have hz3 := F3.out.size
  have hb4 : ∀ x ∈ G4, w3.heap.size ≤ x := fun x hx => by
    rcases hG4 x hx with h | h
    · simp at h; omega
    · simp at h; omega
  have hz4 := f4.size
  have hb5 : w3.heap.size ≤ b5 := by
    rcases hG5 b5 (by simp) with h | h
    · exact hb4 b5 h
    · simp at h hz4; omega
  have f35 : Frame [] w w5 := by
    have e1 : Frame [] w3 w4 := (Frame.alloc [] w3 _).trans f4 (fun x hx => by simp at hx; subst hx; exact .inr (Nat.le_refl _))
    have e2 : Frame [] w3 w5 := (e1.trans1 (Frame.alloc [] w4 _)).trans f5 (fun x hx => .inr (hb4 x hx))
    exact F3.out.trans1 e2
  have S5 := Lib.hid (And.intro row5 (And.intro f35 (show w.heap.size ≤ b5 by omega)))
  have hup2 : Up (zs.map (·.nd.id)) := by
    have := HQ.out.1
    rw [← HNS.out, List.map_map] at this
    exact this
  have hnm : t ∉ zs.map (·.nd.id) := by
    have := HQ.out.2
    rw [← HNS.out, List.map_map] at this
    exact this
  have UP := Lib.hid (And.intro hup2 hnm)
  have HL0 : zs.length ≤ ns.length := by have := HL.out; omega
  have HL1 : ns.length ≤ zs.length := by have := HL.out; omega
  clear sl4 f4 hG4 sl5 f5 hG5 sl6 hv52 row5 hl2 hb4 hz4 hb5 f35 hup2 hnm hd3 d0 d0a HRF
  have FIN : Hid (∀ k wy, RowAt wy b5 41 3 (ns.length + 1) cap5 ((zs.take k ++ zn0 t :: zs.drop k).flatMap Zn.enc) → Frame [b5] w5 wy → k ≤ ns.length → (∀ j z, k ≤ j → zs[j]? = some z → t < z.nd.id) → (∀ m z, k = m + 1 → zs[m]? = some z → z.nd.id < t) →
      RGEnd w rb D (ns.take (rank (ns.map (·.1)) t) ++ (t, [], []) :: ns.drop (rank (ns.map (·.1)) t)) es next (wy.setCell ⟨rb, 0, none⟩ (.slice (some ⟨b5, 0, none⟩) (ns.length + 1) cap5))) := by
    show ∀ k wy, _
    intro k wy hrow hfr hk hge hle
    have hlz : (zs.take k ++ zn0 t :: zs.drop k).length = ns.length + 1 := by simp; omega
    have hfw : Frame [] w wy := S5.out.2.1.trans hfr (fun x hx => by simp at hx; subst hx; exact .inr S5.out.2.2)
    have hrank : rank (ns.map (·.1)) t = k := by
      rw [← HNS.out, List.map_map]
      refine rank_of (by simp; omega) (fun i hi hik => ?_) (fun i hi hik => ?_)
      · cases k with
        | zero => omega
        | succ m =>
          have hml : m < zs.length := by omega
          have h1 := hle m zs[m] rfl (by simp)
          have hu := List.pairwise_iff_getElem.1 UP.out.1
          simp only [List.getElem_map, Function.comp] at *
          rcases Nat.lt_or_ge i m with h2 | h2
          · have := hu i m (by simpa using hi) (by simpa using hml) h2
            simp [Zn.v] at this ⊢
            omega
          · obtain rfl : i = m := by omega
            simp [Zn.v]
            exact h1
      · have hil : i < zs.length := by simpa using hi
        have := hge i zs[i] hik (by simp)
        simp [Zn.v]
        omega
    rw [hrank]
    have hG := RGz.setNodes HZ.out hfw (zs' := zs.take k ++ zn0 t :: zs.drop k) (a' := some ⟨b5, 0, none⟩) (n' := ns.length + 1) (c' := cap5) (G := [b5]) (.inr ⟨b5, cap5, by rw [hlz], rfl, by rw [hlz]; exact hrow⟩) hlz (fun x hx => by simp at hx; subst hx; exact S5.out.2.2) (fun z hz => ?_) HB.out.lt
    · have e9 : (zs.take k ++ zn0 t :: zs.drop k).map Zn.v = ns.take k ++ (t, [], []) :: ns.drop k := by
        rw [← HNS.out]
        simp [List.map_take, List.map_drop, zn0, nd0, Zn.v]
      rw [e9] at hG
      exact hG
    · rcases mem_ins hz with rfl | hz
      · exact zn0_ok _ _ _
      · exact Zn.ok_mono (Zn.ok_frame (HM.out.2.2.1 z hz) hfw (by simp)) (fun b hb => .inl hb)
  have HNE : Hid (rb ≠ b5) := by
    show rb ≠ b5
    have := HB.out.lt
    have := S5.out.2.2
    omega
  go_loopw [6] (fun u wr => ∃ k : Nat, k ≤ ns.length ∧ u = .int .i64 k ∧ Hid (RowAt wr b5 41 3 (ns.length + 1) cap5 ((zs.take k ++ zn0 t :: zs.drop k).flatMap Zn.enc) ∧ Frame [b5] w5 wr ∧ ∀ j z, k ≤ j → zs[j]? = some z → t < z.nd.id)) (fun u _ => (intOf u).toNat)
  case atStart => exact ⟨ns.length, Nat.le_refl _, rfl, by
    show RowAt _ _ _ _ _ _ _ ∧ _ ∧ _
    refine ⟨?_, Frame.refl _ _, fun j z hj hz => ?_⟩
    · rw [List.take_of_length_le (by omega), List.drop_of_length_le (by omega)]; exact S5.out.1
    · have := (List.getElem?_eq_some_iff.1 hz).1; omega⟩
  case round =>
    obtain ⟨k, hk, rfl, hR⟩ := hrel
    by_cases h0 : 0 < k
    case neg =>
      have hk1 : decide (0 < (k : Int)) = false := by simp; omega
      have hbr := (HB.out.frame S5.out.2.1 (by simp)).frame hR.out.2.1 (by simpa using HNE.out)
      have w0 := hbr.at 0 rfl
      have w1 := hbr.frozen 0
      clear hbr
      go_wp2_with fail
      go_quiet (fail)
      go_wp2_with fail
      go_ret
      exact ⟨rfl, FIN.out _ _ (hR.out.1.drewN nq) (hR.out.2.1.trans1 (Frame.drewN _ _ _)) hk hR.out.2.2 (fun m z h => by omega)⟩
    have hk1 : decide (0 < (k : Int)) = true := by simp; omega
    obtain ⟨m, rfl⟩ : ∃ m, k = m + 1 := ⟨k - 1, by omega⟩
    have hmz : m + 1 ≤ zs.length := by omega
    have gk := zs_at (z := zn0 t) hmz
    have gm := zs_prev (z := zn0 t) hmz
    have hms : zs[m]? = some (zs[m]'(by omega)) := by simp
    obtain ⟨PA, PB, hpa, hl1, hl2⟩ := zs_swap (z := zn0 t) hmz
    generalize zs[m]'(by omega) = z at *
    have cell : ∀ i y, (zs.take (m + 1) ++ zn0 t :: zs.drop (m + 1))[i]? = some y → ∀ j u, y.enc[j]? = some u → wr.cell? ⟨b5, i * 3 + j, none⟩ = some u := fun i y hy j u hu => hR.out.1.cell (flat_get zn_len hy hu)
    have a0 := cell _ _ gk 0 _ rfl
    have a1 := cell _ _ gk 1 _ rfl
    have a2 := cell _ _ gk 2 _ rfl
    have z0 := cell _ _ gm 0 _ rfl
    have z1 := cell _ _ gm 1 _ rfl
    have z2 := cell _ _ gm 2 _ rfl
    simp only [Nat.add_zero] at a0 z0
    have e1 : IntKind.i64.wrap (((m + 1 : Nat) : Int) - 1) = (m : Int) := by rw [show (((m + 1 : Nat) : Int) - 1) = (m : Int) from by omega]; exact IntWalk.i64_in _ (by omega)
    have hm0 : (0 : Int) ≤ ((m + 1 : Nat) : Int) - 1 := by omega
    have HCE := Lib.hid cell
    have HPP := Lib.hid (And.intro hpa (And.intro hl1 hl2))
    have HMS := Lib.hid hms
    clear cell gk gm hpa hl1 hl2 hms
    obtain ⟨⟨zi, zla, zln, zlc, zpa, zpn, zpc⟩, zls, zps⟩ := z
    simp only [Zn.enc, Nd.cs, zn0, nd0, List.getElem_cons_zero, List.getElem_cons_succ] at a0 a1 a2 z0 z1 z2
    by_cases hlt : t < zi
    case neg =>
      have hd : decide (t < zi) = false := by simpa using hlt
      have HLE : Hid (zi < t) := by
        show zi < t
        have hmem : zi ∈ zs.map (·.nd.id) := List.mem_map.2 ⟨_, List.mem_of_getElem? HMS.out, rfl⟩
        have hne : t ≠ zi := fun e => UP.out.2 (e ▸ hmem)
        omega
      have HLEQ : Hid (∀ m' z', m + 1 = m' + 1 → zs[m']? = some z' → z'.nd.id < t) := by
        show ∀ m' z', _
        intro m' z' h hz'
        obtain rfl : m' = m := by omega
        have := HMS.out.symm.trans hz'
        simp at this
        subst this
        exact HLE.out
      have hbr := (HB.out.frame S5.out.2.1 (by simp)).frame hR.out.2.1 (by simpa using HNE.out)
      have w0 := hbr.at 0 rfl
      have w1 := hbr.frozen 0
      clear hbr
      go_wp2_with fail
      go_quiet (fail)
      go_wp2_with fail
      go_ret
      exact ⟨rfl, FIN.out _ _ (hR.out.1.drewN nq) (hR.out.2.1.trans1 (Frame.drewN _ _ _)) hk hR.out.2.2 HLEQ.out⟩
    have hd : decide (t < zi) = true := by simpa using hlt
    go_wp2_with fail
    go_quiet (fail)
    have RY := Lib.hid (hR.out.1.drewN nq)
    have FY : Hid (Frame [b5] w5 (wr.drewN nq)) := hR.out.2.1.trans1 (Frame.drewN _ _ _)
    have y := fun (a : Addr) (v : Value) (h : wr.cell? a = some v) => (show (wr.drewN nq).cell? a = some v from h)
    have a0 := y _ _ a0
    have a1 := y _ _ a1
    have a2 := y _ _ a2
    have z0 := y _ _ z0
    have z1 := y _ _ z1
    have z2 := y _ _ z2
    generalize wr.drewN nq = wy at *
    have r0 := RY.out.frozen ((m + 1) * 3)
    have r1 := RY.out.frozen ((m + 1) * 3 + 1)
    have r2 := RY.out.frozen ((m + 1) * 3 + 2)
    have r3 := RY.out.frozen (m * 3)
    have r4 := RY.out.frozen (m * 3 + 1)
    have r5 := RY.out.frozen (m * 3 + 2)
    clear y hd
    go_wp2_with fail
    go_region
    go_wp2_with fail
    go_roundw
    case rel =>
      refine ⟨m, by omega, by first | rfl | go_num, ?_⟩
      show RowAt _ _ _ _ _ _ _ ∧ _ ∧ _
      refine ⟨?_, ?_, fun j z hj hz => ?_⟩
      · have h6 := (((((RY.out.set ((m + 1) * 3) (.int .i64 zi)).set ((m + 1) * 3 + 1) (.slice zla zln zlc)).set ((m + 1) * 3 + 2) (.slice zpa zpn zpc)).set (m * 3) (.int .i64 t)).set (m * 3 + 1) (.slice none 0 0)).set (m * 3 + 2) (.slice none 0 0)
        rw [HPP.out.2.1] at h6
        rw [HPP.out.2.2]
        have e9 := swap_list PA PB (.int .i64 zi) (.slice zla zln zlc) (.slice zpa zpn zpc) (.int .i64 t) (.slice none 0 0) (.slice none 0 0) m HPP.out.1
        have h7 := h6
        simp only [Zn.enc, Nd.cs, zn0, nd0, List.append_assoc, List.cons_append, List.nil_append] at h7 ⊢
        rw [e9] at h7
        exact h7.drew
      · exact (((((((FY.out.trans1 (Frame.setCell _ _ _ (by simp))).trans1 (Frame.setCell _ _ _ (by simp))).trans1 (Frame.setCell _ _ _ (by simp))).trans1 (Frame.setCell _ _ _ (by simp))).trans1 (Frame.setCell _ _ _ (by simp))).trans1 (Frame.setCell _ _ _ (by simp)))).trans1 (Frame.drew _ _)
      · rcases Nat.lt_or_ge m j with h | h
        · exact hR.out.2.2 j z (by omega) hz
        · obtain rfl : j = m := by omega
          have := HMS.out.symm.trans hz
          simp at this
          subst this
          exact hlt
    case measure => first | (simp [intOf]; done) | (simp [intOf]; omega)
end Go.Proofs.YtjcajidgaejhoaaGreat

