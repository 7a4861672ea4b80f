/- Slices of the call's own, by lists. -/
import Derived.Test.YtoidafgeckhkcaaGreatMt01
namespace Go.Proofs.YtoidafgeckhkcaaGreat
open Go.RowKit
set_option linter.unusedSimpArgs false
set_option linter.unusedVariables false

/-- v is a slice of the elements xs, each laid out by enc; nil, or in a block of its own. G: its blocks. -/
def Sl {α : Type} (w : World) (e sz : Nat) (enc : α → List Value) (v : Value) (xs : List α) (G : List Nat) : Prop :=
  (v = .slice none 0 0 ∧ xs = [] ∧ G = []) ∨ ∃ b cap, v = .slice (some ⟨b, 0, none⟩) xs.length cap ∧ G = [b] ∧ RowAt w b e sz xs.length cap (xs.flatMap enc)

section
variable {α : Type} {w w' : World} {e sz : Nat} {enc : α → List Value} {v : Value} {xs : List α} {G S : List Nat}
theorem Sl.nil (w : World) (e sz : Nat) (enc : α → List Value) : Sl w e sz enc (.slice none 0 0) [] [] := .inl ⟨rfl, rfl, rfl⟩
theorem Sl.lt (h : Sl w e sz enc v xs G) : ∀ x ∈ G, x < w.heap.size := by
  rcases h with ⟨_, _, rfl⟩ | ⟨b, cap, _, rfl, h⟩
  · simp
  · simp; exact h.lt
theorem Sl.frame (h : Sl w e sz enc v xs G) (f : Frame S w w') (hS : ∀ x ∈ G, x ∉ S) : Sl w' e sz enc v xs G := by
  rcases h with h | ⟨b, cap, h1, rfl, h2⟩
  · exact .inl h
  · exact .inr ⟨b, cap, h1, rfl, h2.frame f (hS b (by simp))⟩
theorem Sl.frame0 (h : Sl w e sz enc v xs G) (f : Frame [] w w') : Sl w' e sz enc v xs G := h.frame f (by simp)
theorem Sl.form (h : Sl w e sz enc v xs G) : ∃ a cap, v = .slice a xs.length cap := by
  rcases h with ⟨h1, h2, _⟩ | ⟨b, cap, h1, _⟩
  · subst h2; exact ⟨none, 0, h1⟩
  · exact ⟨_, _, h1⟩
theorem Sl.owns (h : Sl w e sz enc v xs G) : w.ownsRow 0 e sz v xs.length (xs.flatMap enc) := by
  rcases h with ⟨rfl, rfl, _⟩ | ⟨b, cap, rfl, _, h⟩
  · exact World.ownsRow_nil _ _ _ _
  · exact h
theorem Sl.own_block (h : Sl w e sz enc v xs G) : ∀ k, v.ownBlock = some k → G = [k] := by
  rcases h with ⟨rfl, rfl, _⟩ | ⟨b, cap, rfl, h1, h⟩
  · intro k hk; cases hk
  · intro k hk; simp [Value.ownBlock] at hk; subst hk; exact h1
theorem flat_len {sz : Nat} {enc : α → List Value} (h : ∀ x, (enc x).length = sz) (xs : List α) : (xs.flatMap enc).length = xs.length * sz := by
  induction xs with
  | nil => simp
  | cons x t ih => simp [List.flatMap_cons, h, ih, Nat.succ_mul]; omega
theorem flat_get {sz : Nat} {enc : α → List Value} (h : ∀ x, (enc x).length = sz) {xs : List α} {k : Nat} {x : α} (hx : xs[k]? = some x) {j : Nat} {u : Value} (hu : (enc x)[j]? = some u) : (xs.flatMap enc)[k * sz + j]? = some u := by
  induction xs generalizing k with
  | nil => simp at hx
  | cons y t ih =>
    have hj : j < sz := by have := (List.getElem?_eq_some_iff.1 hu).1; rw [h] at this; exact this
    cases k with
    | zero =>
      simp at hx; subst hx
      rw [List.flatMap_cons, Nat.zero_mul, Nat.zero_add, List.getElem?_append_left (by rw [h]; exact hj)]
      exact hu
    | succ k =>
      rw [List.flatMap_cons, List.getElem?_append_right (by rw [h, Nat.succ_mul]; omega)]
      have := ih (k := k) (by simpa using hx)
      rw [← this]
      congr 1
      rw [h, Nat.succ_mul]; omega
/-- A cell of element k. -/
theorem Sl.cell (h : Sl w e sz enc v xs G) (hsz : ∀ x, (enc x).length = sz) {k : Nat} {x : α} (hx : xs[k]? = some x) : ∃ b cap, v = .slice (some ⟨b, 0, none⟩) xs.length cap ∧ G = [b] ∧ b < w.heap.size ∧ ∀ j u, (enc x)[j]? = some u → w.cell? ⟨b, k * sz + j, none⟩ = some u := by
  rcases h with ⟨_, rfl, _⟩ | ⟨b, cap, h1, h2, h3⟩
  · simp at hx
  · exact ⟨b, cap, h1, h2, h3.lt, fun j u hu => h3.cell (flat_get hsz hx hu)⟩
/-- A new row. -/
theorem Sl.of_blk {b cap : Nat} {cs : Array Value} (h : Blk w b e cs) (hn : xs.length ≤ cap) (hc : cap ≤ maxLen) (hs : cs.size = cap * sz) (hx : cs.toList.take (xs.length * sz) = xs.flatMap enc) : Sl w e sz enc (.slice (some ⟨b, 0, none⟩) xs.length cap) xs [b] :=
  .inr ⟨b, cap, rfl, rfl, RowAt.of_blk h hn hc hs hx⟩
end

/-- 'append', by lists. -/
theorem wpList_append_sl {α : Type} {P : Program} (w : World) {ops : Array Oper} {rest : List Oper} {o : Oper} {a : Act} {Q : Exit → Act → World → Prop}
    (hg : o.guard = none) (s x : Operand) (t : TypeId) (hop : o.op = Op.call { callee := Callee.builtin Builtin.append, args := #[s, x], argTypes := #[t, t] })
    (e sz bytes : Nat) (z : Value) (enc : α → List Value) (h1 : P.underlying t = some (.slice e)) (hi : (P.info? e).map (fun i => (i.zero, i.size, i.bytes)) = some (some z, sz, bytes)) (h6 : z.cells.size = sz) (h7 : 0 < sz)
    (v : Value) (xs : List α) (G : List Nat) (hs : a.eval s = v) (hown : Sl w e sz enc v xs G)
    (hb m c : Nat) (ys : List α) (cs : Array Value) (hx : a.eval x = .slice (some ⟨hb, 0, none⟩) m c) (hblk : Blk w hb e cs) (hcs : cs.toList = ys.flatMap enc) (hm : ys.length = m) (hsz : ∀ x, (enc x).length = sz) (h1c : ∀ x, ∀ u ∈ enc x, u.oneCell' = true)
    (hm0 : 0 < m) (b1 : xs.length + m ≤ 1073741824) (b2 : bytes ≤ 1024)
    (hK : ∀ b' cap' w', Sl w' e sz enc (.slice (some ⟨b', 0, none⟩) (xs.length + m) cap') (xs ++ ys) [b'] → Frame G w w' → (b' ∈ G ∨ b' = w.heap.size) → wpList P ops Q rest (a.put o.dst (.slice (some ⟨b', 0, none⟩) (xs.length + m) cap')) w') :
    wpList P ops Q (o :: rest) a w := by
  obtain ⟨i0, h2, h3, h4, h5⟩ := info_parts hi
  refine wpList_plain hg fun K hK' => ?_
  refine wp_append_lies w s x t hop 0 e i0 z sz bytes h1 h2 h3 h4 h5 h6 h7 v xs.length (xs.flatMap enc) hs hown.owns ⟨hb, 0, none⟩ m c (ys.flatMap enc) hx (by rw [flat_len hsz, hm]) ?_ ?_ hm0 (by unfold maxLen; omega) ?_ (Nat.zero_le _) _ rfl ?_
  · rw [← hcs]; exact World.news_of_block hblk
  · intro u hu
    obtain ⟨y, _, hy⟩ := List.mem_flatMap.1 hu
    exact h1c y u hy
  · calc (xs.length + m) * bytes ≤ 1073741824 * 1024 := Nat.mul_le_mul b1 b2
      _ ≤ 140737488355328 := by omega
  · intro g cap' w' q1 q2 q3 q4
    refine hK' _ _ (hK g cap' w' (.inr ⟨g, cap', by simp [hm], rfl, ?_⟩) (Frame.of_grown q2 (fun k hk => by rw [hown.own_block k hk]; simp)) ?_)
    · have : RowAt w' g e sz (xs.length + m) cap' (xs.flatMap enc ++ ys.flatMap enc) := q1
      simpa [hm] using this
    · rcases q3 with h | h
      · left; rw [hown.own_block g h]; simp
      · exact .inr h

/-- 'append' at a step of a region that draws its order, by lists. -/
theorem step_append_sl {α : Type} {P : Program} (w : World) {ops : Array Oper} {o : Oper} {a : Act} {K : Act → World → Prop} {Q : Exit → Act → World → Prop} {E : Prop}
    (hg : o.guard = none) (s x : Operand) (t : TypeId) (hop : o.op = Op.call { callee := Callee.builtin Builtin.append, args := #[s, x], argTypes := #[t, t] })
    (e sz bytes : Nat) (z : Value) (enc : α → List Value) (h1 : P.underlying t = some (.slice e)) (hi : (P.info? e).map (fun i => (i.zero, i.size, i.bytes)) = some (some z, sz, bytes)) (h6 : z.cells.size = sz) (h7 : 0 < sz)
    (v : Value) (xs : List α) (n : Nat) (hln : xs.length = n) (G : List Nat) (hs : a.eval s = v) (hown : Sl w e sz enc v xs G)
    (hb m c : Nat) (ys : List α) (cs : Array Value) (hx : a.eval x = .slice (some ⟨hb, 0, none⟩) m c) (hblk : Blk w hb e cs) (hcs : cs.toList = ys.flatMap enc) (hm : ys.length = m) (hsz : ∀ x, (enc x).length = sz) (h1c : ∀ x, ∀ u ∈ enc x, u.oneCell' = true)
    (hm0 : 0 < m) (b1 : n + m ≤ 1073741824) (b2 : bytes ≤ 1024)
    (hK : ∀ b' cap' w', Sl w' e sz enc (.slice (some ⟨b', 0, none⟩) (n + m) cap') (xs ++ ys) [b'] → Frame G w w' → (b' ∈ G ∨ b' = w.heap.size) → K (a.put o.dst (.slice (some ⟨b', 0, none⟩) (n + m) cap')) w') :
    if Region.wanted o (yielded ops a.tmps) = true then Oper.wp P o a w K Q else E := by
  subst hln
  obtain ⟨i0, h2, h3, h4, h5⟩ := info_parts hi
  refine step_append_lies w hg s x t hop 0 e i0 z sz bytes h1 h2 h3 h4 h5 h6 h7 v xs.length (xs.flatMap enc) hs hown.owns ⟨hb, 0, none⟩ m c (ys.flatMap enc) hx (by rw [flat_len hsz, hm]) ?_ ?_ hm0 (by unfold maxLen; omega) ?_ (Nat.zero_le _) _ rfl ?_
  · rw [← hcs]; exact World.news_of_block hblk
  · intro u hu
    obtain ⟨y, _, hy⟩ := List.mem_flatMap.1 hu
    exact h1c y u hy
  · calc (xs.length + m) * bytes ≤ 1073741824 * 1024 := Nat.mul_le_mul b1 b2
      _ ≤ 140737488355328 := by omega
  · intro g cap' w' q1 q2 q3 q4
    refine hK g cap' w' (.inr ⟨g, cap', by simp [hm], rfl, ?_⟩) (Frame.of_grown q2 (fun k hk => by rw [hown.own_block k hk]; simp)) ?_
    · have : RowAt w' g e sz (xs.length + m) cap' (xs.flatMap enc ++ ys.flatMap enc) := q1
      simpa [hm] using this
    · rcases q3 with h | h
      · left; rw [hown.own_block g h]; simp
      · exact .inr h

/-- An int's cell. -/
def encI (n : Int) : List Value := [.int .i64 n]
theorem encI_len (n : Int) : (encI n).length = 1 := rfl
theorem encI_one (n : Int) : ∀ u ∈ encI n, u.oneCell' = true := by simp [encI, Value.oneCell']
theorem infoInt : (Tryz.prog.info? 3).map (fun i => (i.zero, i.size, i.bytes)) = some (some (.int .i64 0), 1, 8) := by kernel_rfl

end Go.Proofs.YtoidafgeckhkcaaGreat

