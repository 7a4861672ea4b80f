/- A map from numbers to values; what a semiring's functions keep to. -/
import Derived.Test.YtbnhhmejlglbcaaGreatMo11
namespace Go.Proofs.YtbnhhmejlglbcaaGreat
open Go.RowKit
set_option linter.unusedSimpArgs false
set_option linter.unusedVariables false

def entI (l : List (Int × Value)) : List MapEntry := l.zipIdx.map fun (p, i) => { key := .int .i64 p.1, val := p.2, born := i }
def findI (k : Int) (l : List (Int × Value)) (i : Nat) : Option (Nat × Value) := match l with
  | [] => none
  | h :: t => if k = h.1 then some (i, h.2) else findI k t (i + 1)
theorem findNow_int (kk : IntKind) (k : Int) : ∀ (l : List (Int × Value)) (i : Nat), Instr.findNow (.int kk) (.int .i64 k) ((l.zipIdx i).map fun (p, i) => { key := .int .i64 p.1, val := p.2, born := i }) i = some (findI k l i)
  | [], i => by simp [Instr.findNow, findI]
  | h :: t, i => by
    have ih := findNow_int kk k t (i + 1)
    simp only [List.zipIdx_cons, List.map_cons, Instr.findNow, findI, Instr.sameNow, if_true]
    by_cases e : k = h.1
    · subst e; simp
    · rw [if_neg e]
      have : (k == h.1) = false := by simpa using e
      rw [this]
      exact ih
theorem findI_none {k : Int} : ∀ (l : List (Int × Value)) (i : Nat), k ∉ l.map Prod.fst → findI k l i = none
  | [], i, _ => rfl
  | h :: t, i, hk => by
    simp only [List.map_cons, List.mem_cons, not_or] at hk
    rw [findI, if_neg hk.1]
    exact findI_none t (i + 1) hk.2
theorem findI_some {k : Int} : ∀ (l : List (Int × Value)) (i : Nat), k ∈ l.map Prod.fst → ∃ p v, findI k l i = some (p, v) ∧ (k, v) ∈ l
  | [], i, h => by simp at h
  | h :: t, i, hk => by
    rw [findI]
    by_cases e : k = h.1
    · rw [if_pos e]; exact ⟨i, h.2, rfl, by subst e; simp⟩
    · rw [if_neg e]
      simp only [List.map_cons, List.mem_cons] at hk
      rcases hk with hk | hk
      · exact absurd hk e
      · obtain ⟨p, v, h1, h2⟩ := findI_some t (i + 1) hk
        exact ⟨p, v, h1, by simp [h2]⟩
theorem checkKey_int (e : Bool) (n : Nat) (k : Int) (w : World) : (Instr.checkKey e (n + 1) 3 (.int .i64 k)).run Tryz.prog w = .ok () w := by simp [Instr.checkKey, go_sem]
theorem lookup_int (w : World) (mb : Nat) (l : List (Int × Value)) (clock : Nat) (k : Int) (p : Nat) (v : Value) (h : MBlk w mb (entI l).toArray clock) (hf : findI k l 0 = some (p, v)) :
    (Instr.lookup 116 (.map (some mb)) (.int .i64 k) false).run Tryz.prog w = .ok v w := by
  have h2 := findNow_int .i64 k l 0
  rw [hf] at h2
  have hg : (getObj mb).run Tryz.prog w = .ok (.map (entI l).toArray clock) w := by unfold MBlk at h; simp [getObj, Sem.run, h]
  have hc : ∀ e, (Instr.checkKey e 10000 3 (.int .i64 k)).run Tryz.prog w = .ok () w := fun e => checkKey_int e 9999 k w
  have hk : (Instr.findKey 3 (.int .i64 k) (entI l)).run Tryz.prog w = .ok (some (p, v)) w := by
    simp only [Instr.findKey, entI, go_sem]
    simp [h2, go_sem]
  simp [Instr.lookup, go_sem, hg, hc, hk]
theorem update_int (w : World) (mb : Nat) (l : List (Int × Value)) (k : Int) (v : Value) (h : MBlk w mb (entI l).toArray l.length) (hf : findI k l 0 = none) :
    (Instr.mapUpdate 116 (.map (some mb)) (.int .i64 k) v).run Tryz.prog w = .ok () (setMap w mb (entI (l ++ [(k, v)])).toArray (l.length + 1)) := by
  have h2 := findNow_int .i64 k l 0
  rw [hf] at h2
  have hg : (getObj mb).run Tryz.prog w = .ok (.map (entI l).toArray l.length) w := by unfold MBlk at h; simp [getObj, Sem.run, h]
  have hc : ∀ e, (Instr.checkKey e 10000 3 (.int .i64 k)).run Tryz.prog w = .ok () w := fun e => checkKey_int e 9999 k w
  have hk : (Instr.findKey 3 (.int .i64 k) (entI l)).run Tryz.prog w = .ok none w := by
    simp only [Instr.findKey, entI, go_sem]
    simp [h2, go_sem]
  have hs : ∀ o, (setObj mb o).run Tryz.prog w = .ok () { w with heap := w.heap.setIfInBounds mb o } := by intro o; unfold MBlk at h; simp [setObj, Sem.run, h]
  have he : (entI l).toArray.push { key := .int .i64 k, val := v, born := l.length } = (entI (l ++ [(k, v)])).toArray := by simp [entI, List.zipIdx_append]
  simp [Instr.mapUpdate, go_sem, hg, hc, hk, hs, ← he, setMap]

/-! ### what a semiring's functions keep to -/
/-- Rows of digits are as they were. -/
def KeepD (w w' : World) : Prop := ∀ (k : Nat) (cs : Array Value) (c : Nat × Nat), w.heap[k]? = some (Obj.cells cs 120 c) → w'.heap[k]? = w.heap[k]?
theorem KeepD.of0 {w w' : World} (f : Frame [] w w') : KeepD w w' := fun k cs c h => f.block k (by
  rcases Nat.lt_or_ge k w.heap.size with h1 | h1
  · exact h1
  · rw [Array.getElem?_eq_none h1] at h; cases h) (by simp)
theorem KeepD.map {w w' : World} {mb : Nat} {es : Array MapEntry} {c : Nat} (f : Frame [mb] w w') (hm : MBlk w mb es c) : KeepD w w' := fun k cs c h => f.block k (by
  rcases Nat.lt_or_ge k w.heap.size with h1 | h1
  · exact h1
  · rw [Array.getElem?_eq_none h1] at h; cases h) (by
  simp only [List.mem_singleton]
  rintro rfl
  unfold MBlk at hm
  rw [hm] at h; cases h)
theorem KeepD.blk {w w' : World} {b T : Nat} {cs : Array Value} (f : Frame [b] w w') (hb : Blk w b T cs) (hT : T ≠ 120) : KeepD w w' := fun k cs c h => f.block k (by
  rcases Nat.lt_or_ge k w.heap.size with h1 | h1
  · exact h1
  · rw [Array.getElem?_eq_none h1] at h; cases h) (by
  simp only [List.mem_singleton]
  rintro rfl
  unfold Blk at hb
  rw [hb] at h
  simp only [Option.some.injEq, Obj.cells.injEq] at h
  exact hT h.2.1)
theorem KeepD.trans {a b c : World} (h : KeepD a b) (k : KeepD b c) : KeepD a c := fun i cs x hc => by
  have h1 := h i cs x hc
  exact (k i cs x (h1.trans hc)).trans h1
/-- What is known of a value hangs on rows of digits alone. -/
def Kept {V : Type} (Is : World → Value → V → Prop) : Prop := ∀ w w' v x, Is w v x → KeepD w w' → Is w' v x
/-- One result, a value, and no error. -/
def VEnd {V : Type} (Is : World → Value → V → Prop) (x : V) (w : World) (e : Ending) (w' : World) : Prop := ∃ v, e = .returned (.tuple #[v, .int .i64 0]) ∧ Is w' v x ∧ Frame [] w w'
/-- A semiring's functions, at the values for which Pl, Tm, Sr hold. -/
structure SemOk {V : Type} (n : Int) (R : Rg V) (Is : World → Value → V → Prop) (Pl Tm : V → V → Prop) (Sr : V → Prop) : Prop where
  form : ∀ {w v x}, Is w v x → ∃ inf sa sl sc lv fl, v = .agg #[.int .i64 n, .bool inf, .slice sa sl sc, .int .i64 lv, .float .f64 fl]
  keep : Kept Is
  zero : ∀ w, Calls Tryz.prog 64 #[.int .i64 n] w fun e w' => VEnd Is R.z w e w'
  one : ∀ w, Calls Tryz.prog 109 #[.int .i64 n] w fun e w' => VEnd Is R.o w e w'
  plus : ∀ w u v x y, Is w u x → Is w v y → Pl x y → Calls Tryz.prog 110 #[u, v] w fun e w' => VEnd Is (R.p x y) w e w'
  times : ∀ w u v x y, Is w u x → Is w v y → Tm x y → Calls Tryz.prog 72 #[u, v] w fun e w' => VEnd Is (R.t x y) w e w'
  star : ∀ w u x, Is w u x → Sr x → Calls Tryz.prog 111 #[u] w fun e w' => VEnd Is (R.s x) w e w'
/-- A gate's functions may be asked. -/
def FitG {V : Type} (Pl Tm : V → V → Prop) (Sr : V → Prop) (vs : Nat → V) (g : Gt) : Prop :=
  (g.k = 4 → Pl (vs g.a.toNat) (vs g.b.toNat)) ∧ (g.k = 5 → Tm (vs g.a.toNat) (vs g.b.toNat)) ∧ (g.k = 6 → Sr (vs g.a.toNat))
/-- A map of gates' values. -/
def GMap {V : Type} (Is : World → Value → V → Prop) (vs : Nat → V) (w : World) (mb : Nat) (ks : List Nat) : Prop :=
  ∃ es : List (Int × Value), MBlk w mb (entI es).toArray es.length ∧ es.map Prod.fst = ks.map (fun j : Nat => (j : Int)) ∧ ∀ k v, (k, v) ∈ es → ∃ j : Nat, k = j ∧ Is w v (vs j)
theorem GMap.new {V : Type} (Is : World → Value → V → Prop) (vs : Nat → V) (w : World) : GMap Is vs (w.alloc (.map #[] 0)) w.heap.size [] :=
  ⟨[], MBlk.new _ _ _, rfl, by simp⟩
theorem GMap.lt {V : Type} {Is : World → Value → V → Prop} {vs : Nat → V} {w : World} {mb : Nat} {ks : List Nat} (h : GMap Is vs w mb ks) : mb < w.heap.size := by
  obtain ⟨es, h1, _⟩ := h; exact h1.lt
theorem GMap.frame0 {V : Type} {Is : World → Value → V → Prop} {vs : Nat → V} {w w' : World} {mb : Nat} {ks : List Nat} (h : GMap Is vs w mb ks) (kp : Kept Is) (f : Frame [] w w') : GMap Is vs w' mb ks := by
  obtain ⟨es, h1, h2, h3⟩ := h
  exact ⟨es, h1.frame f (by simp), h2, fun k v hm => let ⟨j, a, b⟩ := h3 k v hm; ⟨j, a, kp _ _ _ _ b (KeepD.of0 f)⟩⟩
theorem GMap.look {V : Type} {Is : World → Value → V → Prop} {vs : Nat → V} {w : World} {mb : Nat} {ks : List Nat} (h : GMap Is vs w mb ks) {j : Nat} (hj : j ∈ ks) : ∃ v, Is w v (vs j) ∧ ∀ w', Frame [] w w' → (Instr.lookup 116 (.map (some mb)) (.int .i64 j) false).run Tryz.prog w' = .ok v w' := by
  obtain ⟨es, h1, h2, h3⟩ := h
  obtain ⟨p, v, a, b⟩ := findI_some (k := (j : Int)) es 0 (by rw [h2]; exact List.mem_map_of_mem hj)
  obtain ⟨j', e, c⟩ := h3 _ _ b
  have : j' = j := by omega
  subst this
  exact ⟨v, c, fun w' f => lookup_int w' mb es _ _ p v (h1.frame f (by simp)) a⟩
theorem GMap.put {V : Type} {Is : World → Value → V → Prop} {vs : Nat → V} {w : World} {mb : Nat} {ks : List Nat} (h : GMap Is vs w mb ks) (kp : Kept Is) {k : Nat} (hk : k ∉ ks) {v : Value} (hv : Is w v (vs k)) :
    ∃ w', (Instr.mapUpdate 116 (.map (some mb)) (.int .i64 k) v).run Tryz.prog w = .ok () w' ∧ GMap Is vs w' mb (ks ++ [k]) ∧ Frame [mb] w w' := by
  obtain ⟨es, h1, h2, h3⟩ := h
  have f : Frame [mb] w (setMap w mb (entI (es ++ [((k : Int), v)])).toArray (es.length + 1)) := Frame.setMap _ _ _ _ (by simp)
  have kd := KeepD.map f h1
  refine ⟨_, update_int w mb es k v h1 (findI_none es 0 ?_), ⟨es ++ [((k : Int), v)], by simpa using h1.set (entI (es ++ [((k : Int), v)])).toArray (es.length + 1), by simp [h2], ?_⟩, f⟩
  · rw [h2]
    intro hm
    obtain ⟨j, hj, e⟩ := List.mem_map.mp hm
    have : j = k := by omega
    exact hk (this ▸ hj)
  · intro k' v' hm
    rw [List.mem_append] at hm
    rcases hm with hm | hm
    · obtain ⟨j, a, b⟩ := h3 k' v' hm
      exact ⟨j, a, kp _ _ _ _ b kd⟩
    · simp at hm
      obtain ⟨rfl, rfl⟩ := hm
      exact ⟨k, rfl, kp _ _ _ _ hv kd⟩
end Go.Proofs.YtbnhhmejlglbcaaGreat

