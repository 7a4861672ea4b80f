/- append of what is read, wherever it lies. The reference's graph in memory. -/
import Derived.Test.YtjcajidgaejhoaaMi16
import Derived.Deep.AppendLies
import Derived.Laws.OwnMore
import Derived.Test.YtjcajidgaejhoaaMi26
namespace Go.Proofs.Ytjcajidgaejhoaa
open Go.RowKit
set_option linter.unusedSimpArgs false
set_option linter.unusedVariables false

theorem addr_add (b off j : Nat) : (⟨b, off, none⟩ : Addr).add j = ⟨b, off + j, none⟩ := by
  unfold Addr.add; split <;> simp_all
theorem RF.flat {α : Type} {U : Nat → Prop} {w : World} {sz : Nat} {enc : α → List Value} {b off : Nat} {xs : List α} (h : RF U w sz enc (some ⟨b, off, none⟩) xs) (hsz : ∀ x, (enc x).length = sz) : ∀ j u, (xs.flatMap enc)[j]? = some u → w.cell? ((⟨b, off, none⟩ : Addr).add j) = some u := fun j u hj => by
  have hl := (List.getElem?_eq_some_iff.1 hj).1
  rw [flat_len hsz] at hl
  have h0 : 0 < sz := by rcases Nat.eq_zero_or_pos sz with h | h; subst h; simp at hl; exact h
  have hk : j / sz < xs.length := (Nat.div_lt_iff_lt_mul h0).2 hl
  have hi : j % sz < sz := Nat.mod_lt _ h0
  have e : j / sz * sz + j % sz = j := by rw [Nat.mul_comm]; exact Nat.div_add_mod _ _
  have hx : xs[j / sz]? = some xs[j / sz] := by simp [hk]
  have hi' : j % sz < (enc xs[j / sz]).length := by rw [hsz]; exact hi
  have hu : (enc xs[j / sz])[j % sz]? = some (enc xs[j / sz])[j % sz] := by simp [hi']
  have hf := flat_get hsz hx hu
  rw [e, hj] at hf
  simp at hf
  obtain ⟨b', off', e1, _, hc⟩ := h _ _ hx
  simp at e1
  obtain ⟨rfl, rfl⟩ := e1
  have := hc _ _ hu
  rw [addr_add, hf]
  rw [← this]
  congr 2
  omega

theorem run_append_zero {P : Program} {w : World} (base : Nat) (t ty e : TypeId) (i : TypeInfo) (size : Nat) (ht : P.underlying t = some (.slice e)) (hi : P.info? e = some i)
    (v : Value) (n : Nat) (xs : List Value) (hown : w.ownsRow base e size v n xs) (a : Option Addr) (c : Nat) :
    (Builtin.append_ #[t, t] ty #[v, .slice a 0 c]).run P w = .ok v w := by
  have hf : ∀ sz, (Builtin.firstCells sz 0 (.slice a 0 c)).run P w = .ok #[] w := fun sz => by
    cases a with
    | none => simp [Builtin.firstCells]
    | some p => exact run_firstCells_some (P := P) w sz 0 p 0 c [] (by simp) (by simp)
  rcases hown.2 with ⟨rfl, rfl⟩ | ⟨g, cap, cur, rfl, _, _, hnc, _⟩
  · simp [Builtin.append_, run_underlying ht, sizeOf, typeInfo, hi, Builtin.lenOf, hf]
  · simp [Builtin.append_, run_underlying ht, sizeOf, typeInfo, hi, Builtin.lenOf, hf, hnc, storeCells]

/-- What an append of what is read leaves: by lists. -/
def AppK {α : Type} (w : World) (e sz : Nat) (enc : α → List Value) (N : Nat) (zs : List α) (G : List Nat) (K : Value → World → Prop) : Prop :=
  ∀ a' cap' w' G', Sl w' e sz enc (.slice a' N cap') zs G' → Frame G w w' → (∀ x ∈ G', x ∈ G ∨ w.heap.size ≤ x) → K (.slice a' N cap') w'
theorem wp_append_rf {α : Type} {P : Program} {w : World} {o : Oper} {a : Act} {K : Act → World → Prop} {Q : Exit → Act → World → Prop}
    (s x : Operand) (t : TypeId) (hop : o.op = Op.call { callee := Callee.builtin Builtin.append, args := #[s, x], argTypes := #[t, t] })
    (e sz bytes : Nat) (z : Value) (enc : α → List Value) (h1 : P.underlying t = some (.slice e)) (hi : (P.info? e).map (fun i => (i.zero, i.size, i.bytes)) = some (some z, sz, bytes)) (h6 : z.cells.size = sz) (h7 : 0 < sz)
    (v : Value) (xs : List α) (n : Nat) (hln : xs.length = n) (G : List Nat) (hs : a.eval s = v) (hown : Sl w e sz enc v xs G)
    (U : Nat → Prop) (ad : Option Addr) (m c : Nat) (ys : List α) (hx : a.eval x = .slice ad m c) (hr : RF U w sz enc ad ys) (hm : ys.length = m) (hsz : ∀ x, (enc x).length = sz) (h1c : ∀ x, ∀ u ∈ enc x, u.oneCell' = true)
    (N : Nat) (hN : n + m = N) (b1 : N ≤ 1073741824) (b2 : bytes ≤ 1024)
    (hK : AppK w e sz enc N (xs ++ ys) G fun v' w' => K (a.put o.dst v') w') : o.wp P a w K Q := by
  subst hN
  subst hln
  obtain ⟨i0, h2, h3, h4, h5⟩ := info_parts hi
  rcases Nat.eq_zero_or_pos m with h0 | h0
  · subst h0
    have hys : ys = [] := List.eq_nil_of_length_eq_zero hm
    subst hys
    obtain ⟨a', cap', hv⟩ := hown.form
    have hrun := run_append_zero (P := P) 0 t o.type e i0 sz h1 h2 v xs.length (xs.flatMap enc) hown.owns ad c
    unfold Oper.wp execOp
    simp only [hop, resolve, invoke, builtin, Sem.run_bind, Sem.run_pure, Result.andThen_ok, List.map_toArray, List.map_cons, List.map_nil, hs, hx, hrun]
    subst hv
    exact hK a' cap' w G (by simpa using hown) (Frame.refl _ _) (fun x hx => .inl hx)
  · rcases hr.one with h | ⟨b, off, hb, _, _⟩
    · subst h; simp at hm; omega
    · subst hb
      refine wp_append_lies w s x t hop 0 e i0 z sz bytes h1 h2 h3 h4 h5 h6 h7 v xs.length (xs.flatMap enc) hs hown.owns ⟨b, off, none⟩ m c (ys.flatMap enc) hx (by rw [flat_len hsz, hm]) (hr.flat hsz) ?_ h0 (by unfold maxLen; omega) ?_ (Nat.zero_le _) _ rfl ?_
      · intro u hu
        obtain ⟨y, _, hy⟩ := List.mem_flatMap.1 hu
        exact h1c y u hy
      · calc (xs.length + m) * bytes ≤ 1073741824 * 1024 := Nat.mul_le_mul b1 b2
          _ ≤ 140737488355328 := by omega
      · intro g cap' w' q1 q2 q3 q4
        refine hK _ cap' w' [g] (.inr ⟨g, cap', by simp [hm], rfl, ?_⟩) (Frame.of_grown q2 (fun k hk => by rw [hown.own_block k hk]; simp)) ?_
        · have : RowAt w' g e sz (xs.length + m) cap' (xs.flatMap enc ++ ys.flatMap enc) := q1
          simpa [hm] using this
        · intro x hx
          simp at hx; subst hx
          rcases q3 with h | h
          · left; rw [hown.own_block x h]; simp
          · right; omega
theorem wpList_append_rf {α : Type} {P : Program} {w : World} {ops : Array Oper} {rest : List Oper} {o : Oper} {a : Act} {Q : Exit → Act → World → Prop}
    (hg : o.guard = none) (s x : Operand) (t : TypeId) (hop : o.op = Op.call { callee := Callee.builtin Builtin.append, args := #[s, x], argTypes := #[t, t] })
    (e sz bytes : Nat) (z : Value) (enc : α → List Value) (h1 : P.underlying t = some (.slice e)) (hi : (P.info? e).map (fun i => (i.zero, i.size, i.bytes)) = some (some z, sz, bytes)) (h6 : z.cells.size = sz) (h7 : 0 < sz)
    (v : Value) (xs : List α) (n : Nat) (hln : xs.length = n) (G : List Nat) (hs : a.eval s = v) (hown : Sl w e sz enc v xs G)
    (U : Nat → Prop) (ad : Option Addr) (m c : Nat) (ys : List α) (hx : a.eval x = .slice ad m c) (hr : RF U w sz enc ad ys) (hm : ys.length = m) (hsz : ∀ x, (enc x).length = sz) (h1c : ∀ x, ∀ u ∈ enc x, u.oneCell' = true)
    (N : Nat) (hN : n + m = N) (b1 : N ≤ 1073741824) (b2 : bytes ≤ 1024)
    (hK : AppK w e sz enc N (xs ++ ys) G fun v' w' => wpList P ops Q rest (a.put o.dst v') w') : wpList P ops Q (o :: rest) a w :=
  wpList_plain hg fun K hK' => wp_append_rf s x t hop e sz bytes z enc h1 hi h6 h7 v xs n hln G hs hown U ad m c ys hx hr hm hsz h1c N hN b1 b2 (fun a' cap' w' G' q1 q2 q3 => hK' _ _ (hK a' cap' w' G' q1 q2 q3))
/-- One element in a block of its own. -/
theorem rf_one {α : Type} {w : World} {b T sz : Nat} {enc : α → List Value} {cs : Array Value} (h : Blk w b T cs) (x : α) (hx : cs.toList = enc x) : RF (fun y => y = b) w sz enc (some ⟨b, 0, none⟩) [x] := fun k y hy => by
  cases k with
  | zero =>
    simp at hy
    subst hy
    refine ⟨b, 0, rfl, rfl, fun j u hu => ?_⟩
    rw [← hx] at hu
    have := h.at j (v := u) (by simpa using hu)
    simpa using this
  | succ k => simp at hy
/-- An empty row that has just been made. -/
theorem sl_empty {α : Type} (w : World) (e sz : Nat) (enc : α → List Value) : Sl (w.alloc (.cells #[] e)) e sz enc (.slice (some ⟨w.heap.size, 0, none⟩) 0 0) [] [w.heap.size] :=
  .inr ⟨w.heap.size, 0, rfl, rfl, RowAt.of_blk (Blk.new w e #[]) (Nat.zero_le _) (Nat.zero_le _) (by simp) (by simp)⟩
end Go.Proofs.Ytjcajidgaejhoaa

namespace Go.Proofs.Ytjcajidgaejhoaa
open Go.RowKit
set_option linter.unusedSimpArgs false
set_option linter.unusedVariables false

/-- A node with what its two slices are read as. -/
structure Zn where
  nd : Nd
  ls : List ByteArray
  ps : List Pr
def Zn.enc (z : Zn) : List Value := z.nd.cs
def Zn.v (z : Zn) : Nv := (z.nd.id, z.ls, z.ps)
theorem zn_len (z : Zn) : z.enc.length = 3 := rfl
theorem zn_one (z : Zn) : ∀ u ∈ z.enc, u.oneCell' = true := nd_one z.nd
def Zn.ok (U : Nat → Prop) (w : World) (z : Zn) : Prop := z.nd.ln = z.ls.length ∧ z.nd.pn = z.ps.length ∧ RF U w 1 encS z.nd.la z.ls ∧ RF U w 2 Pr.cs z.nd.pa z.ps
section
variable {U U' : Nat → Prop} {w w' : World} {S : List Nat}
theorem Zn.ok_frame {z : Zn} (h : z.ok U w) (f : Frame S w w') (hS : ∀ b, U b → b ∉ S) : z.ok U w' := ⟨h.1, h.2.1, h.2.2.1.frame f hS, h.2.2.2.frame f hS⟩
theorem Zn.ok_mono {z : Zn} (h : z.ok U w) (hU : ∀ b, U b → U' b) : z.ok U' w := ⟨h.1, h.2.1, h.2.2.1.mono hU, h.2.2.2.mono hU⟩
theorem rn_of_zn {a : Option Addr} {zs : List Zn} (h : RF U w 3 Zn.enc a zs) (hz : ∀ z ∈ zs, z.ok U w) : RN U w a (zs.map Zn.v) := fun k n hn => by
  rw [List.getElem?_map] at hn
  obtain ⟨z, h1, rfl⟩ := Option.map_eq_some_iff.1 hn
  obtain ⟨b, off, e1, e2, e3⟩ := h k z h1
  obtain ⟨o1, o2, o3, o4⟩ := hz z (List.mem_of_getElem? h1)
  have c0 := e3 0 _ rfl
  have c1 := e3 1 _ rfl
  have c2 := e3 2 _ rfl
  rw [o1] at c1
  rw [o2] at c2
  exact ⟨b, off, _, _, _, _, e1, e2, by simpa [Zn.v] using c0, c1, c2, o3, o4⟩
end

theorem Sl.cap {α : Type} {w : World} {e sz n c : Nat} {enc : α → List Value} {a : Option Addr} {xs : List α} {G : List Nat} (h : Sl w e sz enc (.slice a n c) xs G) : n ≤ c ∧ c ≤ 9223372036854775807 := by
  rcases h with ⟨h1, _, _⟩ | ⟨b, cap, h1, _, hr⟩
  · injection h1 with _ h2 h3; subst h2 h3; omega
  · injection h1 with _ h2 h3
    subst h2 h3
    obtain ⟨_, _, q1, q2, _⟩ := hr.blk
    unfold maxLen at q2
    exact ⟨q1, by omega⟩
/-- The reference's graph at block rb; D: the blocks that it is read from. -/
def RGz (w : World) (rb : Nat) (D : List Nat) (zs : List Zn) (es : List Ed) (next : Int) : Prop :=
  rb ∉ D ∧ (∀ x ∈ D, x < w.heap.size) ∧ (∀ z ∈ zs, z.ok (· ∈ D) w) ∧ ∃ an nc ae ec, Blk w rb 71 #[.slice an zs.length nc, .slice ae es.length ec, .int .i64 next] ∧ RF (· ∈ D) w 3 Zn.enc an zs ∧ RF (· ∈ D) w 4 Ed.cs ae es ∧ zs.length ≤ nc ∧ nc ≤ 9223372036854775807
def RGv (w : World) (rb : Nat) (D : List Nat) (ns : List Nv) (es : List Ed) (next : Int) : Prop := ∃ zs, RGz w rb D zs es next ∧ zs.map Zn.v = ns
def RGEnd (w : World) (rb : Nat) (D : List Nat) (ns : List Nv) (es : List Ed) (next : Int) (w' : World) : Prop := ∃ D', RGv w' rb D' ns es next ∧ Frame [rb] w w' ∧ ∀ x ∈ D', x ∈ D ∨ w.heap.size ≤ x
section
variable {w w' : World} {rb : Nat} {D S : List Nat} {zs : List Zn} {ns : List Nv} {es : List Ed} {next : Int}
theorem RGz.frame (h : RGz w rb D zs es next) (f : Frame S w w') (hS : ∀ x ∈ rb :: D, x ∉ S) : RGz w' rb D zs es next := by
  obtain ⟨h1, h2, h3, an, nc, ae, ec, h4, h5, h6, h7⟩ := h
  have hD : ∀ b, b ∈ D → b ∉ S := fun b hb => hS b (by simp [hb])
  exact ⟨h1, fun x hx => Nat.lt_of_lt_of_le (h2 x hx) f.size, fun z hz => Zn.ok_frame (h3 z hz) f hD, an, nc, ae, ec, h4.frame f (hS rb (by simp)), h5.frame f hD, h6.frame f hD, h7⟩
theorem RGv.frame (h : RGv w rb D ns es next) (f : Frame S w w') (hS : ∀ x ∈ rb :: D, x ∉ S) : RGv w' rb D ns es next := by
  obtain ⟨zs, a, b⟩ := h; exact ⟨zs, a.frame f hS, b⟩
theorem RGv.frame0 (h : RGv w rb D ns es next) (f : Frame [] w w') : RGv w' rb D ns es next := h.frame f (by simp)
theorem RGz.lt (h : RGz w rb D zs es next) : ∀ x ∈ rb :: D, x < w.heap.size := by
  obtain ⟨h1, h2, h3, an, nc, ae, ec, h4, h5, h6, h7⟩ := h
  intro x hx
  rcases List.mem_cons.1 hx with rfl | hx
  · exact h4.lt
  · exact h2 x hx
theorem RGv.lt (h : RGv w rb D ns es next) : ∀ x ∈ rb :: D, x < w.heap.size := by obtain ⟨zs, a, b⟩ := h; exact a.lt
theorem RGEnd.quiet (h : RGv w rb D ns es next) (f : Frame [] w w') : RGEnd w rb D ns es next w' := ⟨D, h.frame0 f, f.mono (by simp), fun x hx => .inl hx⟩
theorem RGEnd.behind {w1 : World} (f : Frame [] w w1) (h : RGEnd w1 rb D ns es next w') : RGEnd w rb D ns es next w' := by
  obtain ⟨D', a, b, c⟩ := h
  exact ⟨D', a, (f.mono (by simp)).trans1 b, fun x hx => by rcases c x hx with h | h; exact .inl h; right; have := f.size; omega⟩
/-- As a value that is handed on. -/
theorem RGz.rg (h : RGz w rb D zs es next) : ∃ an nc ae ec, Blk w rb 71 #[.slice an (zs.map Zn.v).length nc, .slice ae es.length ec, .int .i64 next] ∧ RG (· ∈ D) w (.agg #[.slice an (zs.map Zn.v).length nc, .slice ae es.length ec, .int .i64 next]) ⟨zs.map Zn.v, es, next⟩ := by
  obtain ⟨h1, h2, h3, an, nc, ae, ec, h4, h5, h6, h7⟩ := h
  exact ⟨an, nc, ae, ec, by rw [List.length_map]; exact h4, an, nc, ae, ec, rfl, rn_of_zn h5 h3, h6⟩
theorem RGv.rg (h : RGv w rb D ns es next) : ∃ an nc ae ec, Blk w rb 71 #[.slice an ns.length nc, .slice ae es.length ec, .int .i64 next] ∧ RG (· ∈ D) w (.agg #[.slice an ns.length nc, .slice ae es.length ec, .int .i64 next]) ⟨ns, es, next⟩ := by
  obtain ⟨zs, a, rfl⟩ := h; exact a.rg
theorem rgnew_any (w : World) : Calls Try.prog 29 #[] w fun e w' => ∃ rb, e = .returned (.pointer (some ⟨rb, 0, none⟩)) ∧ RGv w' rb [] [] [] 1 ∧ Frame [] w w' ∧ w.heap.size ≤ rb := by
  go_enter Try.func29, Try.ntmps29
  go_wp2
  go_ret
  exact ⟨_, rfl, ⟨[], ⟨by simp, by simp, by simp, none, 0, none, 0, Blk.new _ _ _, RF.nil _ _ _ _ _, RF.nil _ _ _ _ _, by simp⟩, rfl⟩, Frame.alloc _ _ _, Nat.le_refl _⟩
/-- A new row of nodes put in the place of the old one. -/
theorem RGz.setNodes {w1 : World} (h : RGz w rb D zs es next) (f : Frame [] w w1) {zs' : List Zn} {a' : Option Addr} {n' c' : Nat} {G : List Nat} (hs : Sl w1 41 3 Zn.enc (.slice a' n' c') zs' G) (hn : zs'.length = n') (hG : ∀ x ∈ G, w.heap.size ≤ x) (hz : ∀ z ∈ zs', z.ok (fun b => b ∈ D ∨ (w.heap.size ≤ b ∧ b < w1.heap.size)) w1) (hrb : rb < w.heap.size) :
    RGEnd w rb D (zs'.map Zn.v) es next (w1.setCell ⟨rb, 0, none⟩ (.slice a' n' c')) := by
  subst hn
  obtain ⟨h1, h2, h3, an, nc, ae, ec, h4, h5, h6, h7⟩ := h
  have fs : Frame [rb] w1 (w1.setCell ⟨rb, 0, none⟩ (.slice a' zs'.length c')) := Frame.setCell _ _ _ (by simp)
  refine ⟨D ++ (List.range w1.heap.size).filter (fun x => decide (w.heap.size ≤ x)), ⟨zs', ⟨?_, ?_, ?_, a', c', ae, ec, ?_, ?_, ?_, hs.cap⟩, rfl⟩, (f.mono (by simp)).trans1 fs, ?_⟩
  · simp only [List.mem_append, List.mem_filter, List.mem_range, decide_eq_true_eq, not_or]
    exact ⟨h1, fun hm => by omega⟩
  · intro x hx
    simp only [List.mem_append, List.mem_filter, List.mem_range, decide_eq_true_eq] at hx
    have hz := fs.size
    rcases hx with hx | hx
    · have := h2 x hx; have := f.size; omega
    · omega
  · intro z hz'
    refine Zn.ok_frame (Zn.ok_mono (hz z hz') (fun b hb => ?_)) fs (fun b hb hm => ?_)
    · simp only [List.mem_append, List.mem_filter, List.mem_range, decide_eq_true_eq]
      rcases hb with hb | hb
      · exact .inl hb
      · exact .inr ⟨hb.2, hb.1⟩
    · simp only [List.mem_append, List.mem_filter, List.mem_range, decide_eq_true_eq] at hb
      simp at hm
      subst hm
      rcases hb with hb | hb
      · exact h1 hb
      · omega
  · have := (h4.frame f (by simp)).set 0 (.slice a' zs'.length c')
    simpa using this
  · refine (hs.rf zn_len (U := (· ∈ G)) (fun x hx => hx)).frame fs (fun b hb hm => ?_) |>.mono (fun b hb => ?_)
    · simp at hm; subst hm; have := hG _ hb; omega
    · simp only [List.mem_append, List.mem_filter, List.mem_range, decide_eq_true_eq]
      exact .inr ⟨hs.lt b hb, hG b hb⟩
  · refine ((h6.frame0 f).frame fs (fun b hb hm => ?_)).mono (fun b hb => by simp; exact .inl hb)
    simp at hm; subst hm; exact h1 hb
  · intro x hx
    simp only [List.mem_append, List.mem_filter, List.mem_range, decide_eq_true_eq] at hx
    rcases hx with hx | hx
    · exact .inl hx
    · exact .inr hx.2
end
end Go.Proofs.Ytjcajidgaejhoaa

