/- A map from numbers to values; what a semiring's functions keep to. Slices of the call's own, by lists. -/
import Derived.Test.YtbnhhmejlglbcaaGreatMa08
import Derived.Test.YtbnhhmejlglbcaaGreatMa01
namespace Go.Proofs.YtbnhhmejlglbcaaGreat
open Go.RowKit
set_option linter.unusedSimpArgs false
set_option linter.unusedVariables false

def entI (l : List (Int × Value)) : List MapEntry := l.zipIdx.map fun (p, i) => { key := .int .i64 p.1, val := p.2, born := i }
def findI (k : Int) (l : List (Int × Value)) (i : Nat) : Option (Nat × Value) := match l with
  | [] => none
  | h :: t => if k = h.1 then some (i, h.2) else findI k t (i + 1)
theorem findNow_int (kk : IntKind) (k : Int) : ∀ (l : List (Int × Value)) (i : Nat), Instr.findNow (.int kk) (.int .i64 k) ((l.zipIdx i).map fun (p, i) => { key := .int .i64 p.1, val := p.2, born := i }) i = some (findI k l i)
  | [], i => by simp [Instr.findNow, findI]
  | h :: t, i => by
    have ih := findNow_int kk k t (i + 1)
    simp only [List.zipIdx_cons, List.map_cons, Instr.findNow, findI, Instr.sameNow, if_true]
    by_cases e : k = h.1
    · subst e; simp
    · rw [if_neg e]
      have : (k == h.1) = false := by simpa using e
      rw [this]
      exact ih
theorem findI_none {k : Int} : ∀ (l : List (Int × Value)) (i : Nat), k ∉ l.map Prod.fst → findI k l i = none
  | [], i, _ => rfl
  | h :: t, i, hk => by
    simp only [List.map_cons, List.mem_cons, not_or] at hk
    rw [findI, if_neg hk.1]
    exact findI_none t (i + 1) hk.2
theorem findI_some {k : Int} : ∀ (l : List (Int × Value)) (i : Nat), k ∈ l.map Prod.fst → ∃ p v, findI k l i = some (p, v) ∧ (k, v) ∈ l
  | [], i, h => by simp at h
  | h :: t, i, hk => by
    rw [findI]
    by_cases e : k = h.1
    · rw [if_pos e]; exact ⟨i, h.2, rfl, by subst e; simp⟩
    · rw [if_neg e]
      simp only [List.map_cons, List.mem_cons] at hk
      rcases hk with hk | hk
      · exact absurd hk e
      · obtain ⟨p, v, h1, h2⟩ := findI_some t (i + 1) hk
        exact ⟨p, v, h1, by simp [h2]⟩
theorem checkKey_int (e : Bool) (n : Nat) (k : Int) (w : World) : (Instr.checkKey e (n + 1) 3 (.int .i64 k)).run Tryz.prog w = .ok () w := by simp [Instr.checkKey, go_sem]
theorem lookup_int (w : World) (mb : Nat) (l : List (Int × Value)) (clock : Nat) (k : Int) (p : Nat) (v : Value) (h : MBlk w mb (entI l).toArray clock) (hf : findI k l 0 = some (p, v)) :
    (Instr.lookup 116 (.map (some mb)) (.int .i64 k) false).run Tryz.prog w = .ok v w := by
  have h2 := findNow_int .i64 k l 0
  rw [hf] at h2
  have hg : (getObj mb).run Tryz.prog w = .ok (.map (entI l).toArray clock) w := by unfold MBlk at h; simp [getObj, Sem.run, h]
  have hc : ∀ e, (Instr.checkKey e 10000 3 (.int .i64 k)).run Tryz.prog w = .ok () w := fun e => checkKey_int e 9999 k w
  have hk : (Instr.findKey 3 (.int .i64 k) (entI l)).run Tryz.prog w = .ok (some (p, v)) w := by
    simp only [Instr.findKey, entI, go_sem]
    simp [h2, go_sem]
  simp [Instr.lookup, go_sem, hg, hc, hk]
theorem update_int (w : World) (mb : Nat) (l : List (Int × Value)) (k : Int) (v : Value) (h : MBlk w mb (entI l).toArray l.length) (hf : findI k l 0 = none) :
    (Instr.mapUpdate 116 (.map (some mb)) (.int .i64 k) v).run Tryz.prog w = .ok () (setMap w mb (entI (l ++ [(k, v)])).toArray (l.length + 1)) := by
  have h2 := findNow_int .i64 k l 0
  rw [hf] at h2
  have hg : (getObj mb).run Tryz.prog w = .ok (.map (entI l).toArray l.length) w := by unfold MBlk at h; simp [getObj, Sem.run, h]
  have hc : ∀ e, (Instr.checkKey e 10000 3 (.int .i64 k)).run Tryz.prog w = .ok () w := fun e => checkKey_int e 9999 k w
  have hk : (Instr.findKey 3 (.int .i64 k) (entI l)).run Tryz.prog w = .ok none w := by
    simp only [Instr.findKey, entI, go_sem]
    simp [h2, go_sem]
  have hs : ∀ o, (setObj mb o).run Tryz.prog w = .ok () { w with heap := w.heap.setIfInBounds mb o } := by intro o; unfold MBlk at h; simp [setObj, Sem.run, h]
  have he : (entI l).toArray.push { key := .int .i64 k, val := v, born := l.length } = (entI (l ++ [(k, v)])).toArray := by simp [entI, List.zipIdx_append]
  simp [Instr.mapUpdate, go_sem, hg, hc, hk, hs, ← he, setMap]

/-! ### what a semiring's functions keep to -/
/-- Rows of digits are as they were. -/
def KeepD (w w' : World) : Prop := ∀ (k : Nat) (cs : Array Value) (c : Nat × Nat), w.heap[k]? = some (Obj.cells cs 120 c) → w'.heap[k]? = w.heap[k]?
theorem KeepD.of0 {w w' : World} (f : Frame [] w w') : KeepD w w' := fun k cs c h => f.block k (by
  rcases Nat.lt_or_ge k w.heap.size with h1 | h1
  · exact h1
  · rw [Array.getElem?_eq_none h1] at h; cases h) (by simp)
theorem KeepD.map {w w' : World} {mb : Nat} {es : Array MapEntry} {c : Nat} (f : Frame [mb] w w') (hm : MBlk w mb es c) : KeepD w w' := fun k cs c h => f.block k (by
  rcases Nat.lt_or_ge k w.heap.size with h1 | h1
  · exact h1
  · rw [Array.getElem?_eq_none h1] at h; cases h) (by
  simp only [List.mem_singleton]
  rintro rfl
  unfold MBlk at hm
  rw [hm] at h; cases h)
theorem KeepD.blk {w w' : World} {b T : Nat} {cs : Array Value} (f : Frame [b] w w') (hb : Blk w b T cs) (hT : T ≠ 120) : KeepD w w' := fun k cs c h => f.block k (by
  rcases Nat.lt_or_ge k w.heap.size with h1 | h1
  · exact h1
  · rw [Array.getElem?_eq_none h1] at h; cases h) (by
  simp only [List.mem_singleton]
  rintro rfl
  unfold Blk at hb
  rw [hb] at h
  simp only [Option.some.injEq, Obj.cells.injEq] at h
  exact hT h.2.1)
theorem KeepD.trans {a b c : World} (h : KeepD a b) (k : KeepD b c) : KeepD a c := fun i cs x hc => by
  have h1 := h i cs x hc
  exact (k i cs x (h1.trans hc)).trans h1
/-- What is known of a value hangs on rows of digits alone. -/
def Kept {V : Type} (Is : World → Value → V → Prop) : Prop := ∀ w w' v x, Is w v x → KeepD w w' → Is w' v x
/-- One result, a value, and no error. -/
def VEnd {V : Type} (Is : World → Value → V → Prop) (x : V) (w : World) (e : Ending) (w' : World) : Prop := ∃ v, e = .returned (.tuple #[v, .int .i64 0]) ∧ Is w' v x ∧ Frame [] w w'
/-- A semiring's functions, at the values for which Pl, Tm, Sr hold. -/
structure SemOk {V : Type} (n : Int) (R : Rg V) (Is : World → Value → V → Prop) (Pl Tm : V → V → Prop) (Sr : V → Prop) : Prop where
  form : ∀ {w v x}, Is w v x → ∃ inf sa sl sc lv fl, v = .agg #[.int .i64 n, .bool inf, .slice sa sl sc, .int .i64 lv, .float .f64 fl]
  keep : Kept Is
  zero : ∀ w, Calls Tryz.prog 64 #[.int .i64 n] w fun e w' => VEnd Is R.z w e w'
  one : ∀ w, Calls Tryz.prog 109 #[.int .i64 n] w fun e w' => VEnd Is R.o w e w'
  plus : ∀ w u v x y, Is w u x → Is w v y → Pl x y → Calls Tryz.prog 110 #[u, v] w fun e w' => VEnd Is (R.p x y) w e w'
  times : ∀ w u v x y, Is w u x → Is w v y → Tm x y → Calls Tryz.prog 72 #[u, v] w fun e w' => VEnd Is (R.t x y) w e w'
  star : ∀ w u x, Is w u x → Sr x → Calls Tryz.prog 111 #[u] w fun e w' => VEnd Is (R.s x) w e w'
/-- A gate's functions may be asked. -/
def FitG {V : Type} (Pl Tm : V → V → Prop) (Sr : V → Prop) (vs : Nat → V) (g : Gt) : Prop :=
  (g.k = 4 → Pl (vs g.a.toNat) (vs g.b.toNat)) ∧ (g.k = 5 → Tm (vs g.a.toNat) (vs g.b.toNat)) ∧ (g.k = 6 → Sr (vs g.a.toNat))
/-- A map of gates' values. -/
def GMap {V : Type} (Is : World → Value → V → Prop) (vs : Nat → V) (w : World) (mb : Nat) (ks : List Nat) : Prop :=
  ∃ es : List (Int × Value), MBlk w mb (entI es).toArray es.length ∧ es.map Prod.fst = ks.map (fun j : Nat => (j : Int)) ∧ ∀ k v, (k, v) ∈ es → ∃ j : Nat, k = j ∧ Is w v (vs j)
theorem GMap.new {V : Type} (Is : World → Value → V → Prop) (vs : Nat → V) (w : World) : GMap Is vs (w.alloc (.map #[] 0)) w.heap.size [] :=
  ⟨[], MBlk.new _ _ _, rfl, by simp⟩
theorem GMap.lt {V : Type} {Is : World → Value → V → Prop} {vs : Nat → V} {w : World} {mb : Nat} {ks : List Nat} (h : GMap Is vs w mb ks) : mb < w.heap.size := by
  obtain ⟨es, h1, _⟩ := h; exact h1.lt
theorem GMap.frame0 {V : Type} {Is : World → Value → V → Prop} {vs : Nat → V} {w w' : World} {mb : Nat} {ks : List Nat} (h : GMap Is vs w mb ks) (kp : Kept Is) (f : Frame [] w w') : GMap Is vs w' mb ks := by
  obtain ⟨es, h1, h2, h3⟩ := h
  exact ⟨es, h1.frame f (by simp), h2, fun k v hm => let ⟨j, a, b⟩ := h3 k v hm; ⟨j, a, kp _ _ _ _ b (KeepD.of0 f)⟩⟩
theorem GMap.look {V : Type} {Is : World → Value → V → Prop} {vs : Nat → V} {w : World} {mb : Nat} {ks : List Nat} (h : GMap Is vs w mb ks) {j : Nat} (hj : j ∈ ks) : ∃ v, Is w v (vs j) ∧ ∀ w', Frame [] w w' → (Instr.lookup 116 (.map (some mb)) (.int .i64 j) false).run Tryz.prog w' = .ok v w' := by
  obtain ⟨es, h1, h2, h3⟩ := h
  obtain ⟨p, v, a, b⟩ := findI_some (k := (j : Int)) es 0 (by rw [h2]; exact List.mem_map_of_mem hj)
  obtain ⟨j', e, c⟩ := h3 _ _ b
  have : j' = j := by omega
  subst this
  exact ⟨v, c, fun w' f => lookup_int w' mb es _ _ p v (h1.frame f (by simp)) a⟩
theorem GMap.put {V : Type} {Is : World → Value → V → Prop} {vs : Nat → V} {w : World} {mb : Nat} {ks : List Nat} (h : GMap Is vs w mb ks) (kp : Kept Is) {k : Nat} (hk : k ∉ ks) {v : Value} (hv : Is w v (vs k)) :
    ∃ w', (Instr.mapUpdate 116 (.map (some mb)) (.int .i64 k) v).run Tryz.prog w = .ok () w' ∧ GMap Is vs w' mb (ks ++ [k]) ∧ Frame [mb] w w' := by
  obtain ⟨es, h1, h2, h3⟩ := h
  have f : Frame [mb] w (setMap w mb (entI (es ++ [((k : Int), v)])).toArray (es.length + 1)) := Frame.setMap _ _ _ _ (by simp)
  have kd := KeepD.map f h1
  refine ⟨_, update_int w mb es k v h1 (findI_none es 0 ?_), ⟨es ++ [((k : Int), v)], by simpa using h1.set (entI (es ++ [((k : Int), v)])).toArray (es.length + 1), by simp [h2], ?_⟩, f⟩
  · rw [h2]
    intro hm
    obtain ⟨j, hj, e⟩ := List.mem_map.mp hm
    have : j = k := by omega
    exact hk (this ▸ hj)
  · intro k' v' hm
    rw [List.mem_append] at hm
    rcases hm with hm | hm
    · obtain ⟨j, a, b⟩ := h3 k' v' hm
      exact ⟨j, a, kp _ _ _ _ b kd⟩
    · simp at hm
      obtain ⟨rfl, rfl⟩ := hm
      exact ⟨k, rfl, kp _ _ _ _ hv kd⟩
end Go.Proofs.YtbnhhmejlglbcaaGreat

namespace Go.Proofs.YtbnhhmejlglbcaaGreat
open Go.RowKit
set_option linter.unusedSimpArgs false
set_option linter.unusedVariables false

/-- v is a slice of the elements xs, each laid out by enc; nil, or in a block of its own. G: its blocks. -/
def Sl {α : Type} (w : World) (e sz : Nat) (enc : α → List Value) (v : Value) (xs : List α) (G : List Nat) : Prop :=
  (v = .slice none 0 0 ∧ xs = [] ∧ G = []) ∨ ∃ b cap, v = .slice (some ⟨b, 0, none⟩) xs.length cap ∧ G = [b] ∧ RowAt w b e sz xs.length cap (xs.flatMap enc)

section
variable {α : Type} {w w' : World} {e sz : Nat} {enc : α → List Value} {v : Value} {xs : List α} {G S : List Nat}
theorem Sl.nil (w : World) (e sz : Nat) (enc : α → List Value) : Sl w e sz enc (.slice none 0 0) [] [] := .inl ⟨rfl, rfl, rfl⟩
theorem Sl.lt (h : Sl w e sz enc v xs G) : ∀ x ∈ G, x < w.heap.size := by
  rcases h with ⟨_, _, rfl⟩ | ⟨b, cap, _, rfl, h⟩
  · simp
  · simp; exact h.lt
theorem Sl.frame (h : Sl w e sz enc v xs G) (f : Frame S w w') (hS : ∀ x ∈ G, x ∉ S) : Sl w' e sz enc v xs G := by
  rcases h with h | ⟨b, cap, h1, rfl, h2⟩
  · exact .inl h
  · exact .inr ⟨b, cap, h1, rfl, h2.frame f (hS b (by simp))⟩
theorem Sl.frame0 (h : Sl w e sz enc v xs G) (f : Frame [] w w') : Sl w' e sz enc v xs G := h.frame f (by simp)
theorem Sl.form (h : Sl w e sz enc v xs G) : ∃ a cap, v = .slice a xs.length cap := by
  rcases h with ⟨h1, h2, _⟩ | ⟨b, cap, h1, _⟩
  · subst h2; exact ⟨none, 0, h1⟩
  · exact ⟨_, _, h1⟩
theorem Sl.owns (h : Sl w e sz enc v xs G) : w.ownsRow 0 e sz v xs.length (xs.flatMap enc) := by
  rcases h with ⟨rfl, rfl, _⟩ | ⟨b, cap, rfl, _, h⟩
  · exact World.ownsRow_nil _ _ _ _
  · exact h
theorem Sl.own_block (h : Sl w e sz enc v xs G) : ∀ k, v.ownBlock = some k → G = [k] := by
  rcases h with ⟨rfl, rfl, _⟩ | ⟨b, cap, rfl, h1, h⟩
  · intro k hk; cases hk
  · intro k hk; simp [Value.ownBlock] at hk; subst hk; exact h1
theorem flat_len {sz : Nat} {enc : α → List Value} (h : ∀ x, (enc x).length = sz) (xs : List α) : (xs.flatMap enc).length = xs.length * sz := by
  induction xs with
  | nil => simp
  | cons x t ih => simp [List.flatMap_cons, h, ih, Nat.succ_mul]; omega
theorem flat_get {sz : Nat} {enc : α → List Value} (h : ∀ x, (enc x).length = sz) {xs : List α} {k : Nat} {x : α} (hx : xs[k]? = some x) {j : Nat} {u : Value} (hu : (enc x)[j]? = some u) : (xs.flatMap enc)[k * sz + j]? = some u := by
  induction xs generalizing k with
  | nil => simp at hx
  | cons y t ih =>
    have hj : j < sz := by have := (List.getElem?_eq_some_iff.1 hu).1; rw [h] at this; exact this
    cases k with
    | zero =>
      simp at hx; subst hx
      rw [List.flatMap_cons, Nat.zero_mul, Nat.zero_add, List.getElem?_append_left (by rw [h]; exact hj)]
      exact hu
    | succ k =>
      rw [List.flatMap_cons, List.getElem?_append_right (by rw [h, Nat.succ_mul]; omega)]
      have := ih (k := k) (by simpa using hx)
      rw [← this]
      congr 1
      rw [h, Nat.succ_mul]; omega
/-- A cell of element k. -/
theorem Sl.cell (h : Sl w e sz enc v xs G) (hsz : ∀ x, (enc x).length = sz) {k : Nat} {x : α} (hx : xs[k]? = some x) : ∃ b cap, v = .slice (some ⟨b, 0, none⟩) xs.length cap ∧ G = [b] ∧ b < w.heap.size ∧ ∀ j u, (enc x)[j]? = some u → w.cell? ⟨b, k * sz + j, none⟩ = some u := by
  rcases h with ⟨_, rfl, _⟩ | ⟨b, cap, h1, h2, h3⟩
  · simp at hx
  · exact ⟨b, cap, h1, h2, h3.lt, fun j u hu => h3.cell (flat_get hsz hx hu)⟩
/-- A new row. -/
theorem Sl.of_blk {b cap : Nat} {cs : Array Value} (h : Blk w b e cs) (hn : xs.length ≤ cap) (hc : cap ≤ maxLen) (hs : cs.size = cap * sz) (hx : cs.toList.take (xs.length * sz) = xs.flatMap enc) : Sl w e sz enc (.slice (some ⟨b, 0, none⟩) xs.length cap) xs [b] :=
  .inr ⟨b, cap, rfl, rfl, RowAt.of_blk h hn hc hs hx⟩
end

/-- 'append', by lists. -/
theorem wpList_append_sl {α : Type} {P : Program} (w : World) {ops : Array Oper} {rest : List Oper} {o : Oper} {a : Act} {Q : Exit → Act → World → Prop}
    (hg : o.guard = none) (s x : Operand) (t : TypeId) (hop : o.op = Op.call { callee := Callee.builtin Builtin.append, args := #[s, x], argTypes := #[t, t] })
    (e sz bytes : Nat) (z : Value) (enc : α → List Value) (h1 : P.underlying t = some (.slice e)) (hi : (P.info? e).map (fun i => (i.zero, i.size, i.bytes)) = some (some z, sz, bytes)) (h6 : z.cells.size = sz) (h7 : 0 < sz)
    (v : Value) (xs : List α) (G : List Nat) (hs : a.eval s = v) (hown : Sl w e sz enc v xs G)
    (hb m c : Nat) (ys : List α) (cs : Array Value) (hx : a.eval x = .slice (some ⟨hb, 0, none⟩) m c) (hblk : Blk w hb e cs) (hcs : cs.toList = ys.flatMap enc) (hm : ys.length = m) (hsz : ∀ x, (enc x).length = sz) (h1c : ∀ x, ∀ u ∈ enc x, u.oneCell' = true)
    (hm0 : 0 < m) (b1 : xs.length + m ≤ 1073741824) (b2 : bytes ≤ 1024)
    (hK : ∀ b' cap' w', Sl w' e sz enc (.slice (some ⟨b', 0, none⟩) (xs.length + m) cap') (xs ++ ys) [b'] → Frame G w w' → (b' ∈ G ∨ b' = w.heap.size) → wpList P ops Q rest (a.put o.dst (.slice (some ⟨b', 0, none⟩) (xs.length + m) cap')) w') :
    wpList P ops Q (o :: rest) a w := by
  obtain ⟨i0, h2, h3, h4, h5⟩ := info_parts hi
  refine wpList_plain hg fun K hK' => ?_
  refine wp_append_lies w s x t hop 0 e i0 z sz bytes h1 h2 h3 h4 h5 h6 h7 v xs.length (xs.flatMap enc) hs hown.owns ⟨hb, 0, none⟩ m c (ys.flatMap enc) hx (by rw [flat_len hsz, hm]) ?_ ?_ hm0 (by unfold maxLen; omega) ?_ (Nat.zero_le _) _ rfl ?_
  · rw [← hcs]; exact World.news_of_block hblk
  · intro u hu
    obtain ⟨y, _, hy⟩ := List.mem_flatMap.1 hu
    exact h1c y u hy
  · calc (xs.length + m) * bytes ≤ 1073741824 * 1024 := Nat.mul_le_mul b1 b2
      _ ≤ 140737488355328 := by omega
  · intro g cap' w' q1 q2 q3 q4
    refine hK' _ _ (hK g cap' w' (.inr ⟨g, cap', by simp [hm], rfl, ?_⟩) (Frame.of_grown q2 (fun k hk => by rw [hown.own_block k hk]; simp)) ?_)
    · have : RowAt w' g e sz (xs.length + m) cap' (xs.flatMap enc ++ ys.flatMap enc) := q1
      simpa [hm] using this
    · rcases q3 with h | h
      · left; rw [hown.own_block g h]; simp
      · exact .inr h

/-- 'append' at a step of a region that draws its order, by lists. -/
theorem step_append_sl {α : Type} {P : Program} (w : World) {ops : Array Oper} {o : Oper} {a : Act} {K : Act → World → Prop} {Q : Exit → Act → World → Prop} {E : Prop}
    (hg : o.guard = none) (s x : Operand) (t : TypeId) (hop : o.op = Op.call { callee := Callee.builtin Builtin.append, args := #[s, x], argTypes := #[t, t] })
    (e sz bytes : Nat) (z : Value) (enc : α → List Value) (h1 : P.underlying t = some (.slice e)) (hi : (P.info? e).map (fun i => (i.zero, i.size, i.bytes)) = some (some z, sz, bytes)) (h6 : z.cells.size = sz) (h7 : 0 < sz)
    (v : Value) (xs : List α) (n : Nat) (hln : xs.length = n) (G : List Nat) (hs : a.eval s = v) (hown : Sl w e sz enc v xs G)
    (hb m c : Nat) (ys : List α) (cs : Array Value) (hx : a.eval x = .slice (some ⟨hb, 0, none⟩) m c) (hblk : Blk w hb e cs) (hcs : cs.toList = ys.flatMap enc) (hm : ys.length = m) (hsz : ∀ x, (enc x).length = sz) (h1c : ∀ x, ∀ u ∈ enc x, u.oneCell' = true)
    (hm0 : 0 < m) (b1 : n + m ≤ 1073741824) (b2 : bytes ≤ 1024)
    (hK : ∀ b' cap' w', Sl w' e sz enc (.slice (some ⟨b', 0, none⟩) (n + m) cap') (xs ++ ys) [b'] → Frame G w w' → (b' ∈ G ∨ b' = w.heap.size) → K (a.put o.dst (.slice (some ⟨b', 0, none⟩) (n + m) cap')) w') :
    if Region.wanted o (yielded ops a.tmps) = true then Oper.wp P o a w K Q else E := by
  subst hln
  obtain ⟨i0, h2, h3, h4, h5⟩ := info_parts hi
  refine step_append_lies w hg s x t hop 0 e i0 z sz bytes h1 h2 h3 h4 h5 h6 h7 v xs.length (xs.flatMap enc) hs hown.owns ⟨hb, 0, none⟩ m c (ys.flatMap enc) hx (by rw [flat_len hsz, hm]) ?_ ?_ hm0 (by unfold maxLen; omega) ?_ (Nat.zero_le _) _ rfl ?_
  · rw [← hcs]; exact World.news_of_block hblk
  · intro u hu
    obtain ⟨y, _, hy⟩ := List.mem_flatMap.1 hu
    exact h1c y u hy
  · calc (xs.length + m) * bytes ≤ 1073741824 * 1024 := Nat.mul_le_mul b1 b2
      _ ≤ 140737488355328 := by omega
  · intro g cap' w' q1 q2 q3 q4
    refine hK g cap' w' (.inr ⟨g, cap', by simp [hm], rfl, ?_⟩) (Frame.of_grown q2 (fun k hk => by rw [hown.own_block k hk]; simp)) ?_
    · have : RowAt w' g e sz (xs.length + m) cap' (xs.flatMap enc ++ ys.flatMap enc) := q1
      simpa [hm] using this
    · rcases q3 with h | h
      · left; rw [hown.own_block g h]; simp
      · exact .inr h

/-- An int's cell. -/
def encI (n : Int) : List Value := [.int .i64 n]
theorem encI_len (n : Int) : (encI n).length = 1 := rfl
theorem encI_one (n : Int) : ∀ u ∈ encI n, u.oneCell' = true := by simp [encI, Value.oneCell']
theorem infoInt : (Tryz.prog.info? 3).map (fun i => (i.zero, i.size, i.bytes)) = some (some (.int .i64 0), 1, 8) := by kernel_rfl

end Go.Proofs.YtbnhhmejlglbcaaGreat

