/- A slice wherever it lies, as it is read; calls that answer by a Bool. append of what is read, wherever it lies. -/
import Derived.Test.YtbnhhmejlglbcaaMg01
import Derived.Deep.AppendLies
import Derived.Laws.OwnMore
namespace Go.Proofs.Ytbnhhmejlglbcaa
open Go.RowKit
set_option linter.unusedSimpArgs false
set_option linter.unusedVariables false

/-- A slice whose elements are laid out by enc, read in blocks of U. -/
def RF {α : Type} (U : Nat → Prop) (w : World) (sz : Nat) (enc : α → List Value) (a : Option Addr) (xs : List α) : Prop :=
  ∀ k x, xs[k]? = some x → ∃ b off, a = some ⟨b, off, none⟩ ∧ U b ∧ ∀ j u, (enc x)[j]? = some u → w.cell? ⟨b, off + k * sz + j, none⟩ = some u
section
variable {α : Type} {U U' : Nat → Prop} {w w' : World} {sz : Nat} {enc : α → List Value} {a : Option Addr} {xs : List α} {S : List Nat}
theorem RF.frame (h : RF U w sz enc a xs) (f : Frame S w w') (hS : ∀ b, U b → b ∉ S) : RF U w' sz enc a xs := fun k x hx => by
  obtain ⟨b, off, h1, h2, h3⟩ := h k x hx
  exact ⟨b, off, h1, h2, fun j u hu => f.cell (h3 j u hu) (hS b h2)⟩
theorem RF.frame0 (h : RF U w sz enc a xs) (f : Frame [] w w') : RF U w' sz enc a xs := h.frame f (by simp)
theorem RF.mono (h : RF U w sz enc a xs) (hU : ∀ b, U b → U' b) : RF U' w sz enc a xs := fun k x hx => by
  obtain ⟨b, off, h1, h2, h3⟩ := h k x hx
  exact ⟨b, off, h1, hU b h2, h3⟩
theorem RF.nil (U : Nat → Prop) (w : World) (sz : Nat) (enc : α → List Value) (a : Option Addr) : RF U w sz enc a [] := fun k x hx => by simp at hx
/-- All that is read lies in one block. -/
theorem RF.one (h : RF U w sz enc a xs) : xs = [] ∨ ∃ b off, a = some ⟨b, off, none⟩ ∧ U b ∧ ∀ k x, xs[k]? = some x → ∀ j u, (enc x)[j]? = some u → w.cell? ⟨b, off + k * sz + j, none⟩ = some u := by
  cases xs with
  | nil => exact .inl rfl
  | cons y t =>
    right
    obtain ⟨b, off, h1, h2, _⟩ := h 0 y rfl
    refine ⟨b, off, h1, h2, fun k x hx => ?_⟩
    obtain ⟨b', off', h1', _, h3⟩ := h k x hx
    rw [h1] at h1'
    simp at h1'
    obtain ⟨rfl, rfl⟩ := h1'
    exact h3
theorem Sl.rf {e cap n : Nat} {G : List Nat} (h : Sl w e sz enc (.slice a n cap) xs G) (hsz : ∀ x, (enc x).length = sz) (hU : ∀ x ∈ G, U x) : RF U w sz enc a xs := fun k x hx => by
  obtain ⟨b, c, h1, h2, _, h4⟩ := h.cell hsz hx
  injection h1 with h1 _ _
  exact ⟨b, 0, h1, hU b (by simp [h2]), fun j u hu => by rw [Nat.zero_add]; exact h4 j u hu⟩
end

/-- A call that answers whether P holds, and writes nothing that was there. -/
def Ans (P : Prop) (w : World) (e : Ending) (w' : World) : Prop := ∃ b, e = .returned (.bool b) ∧ (b = true ↔ P) ∧ Frame [] w w'
theorem Ans.yes {P : Prop} {w : World} {f : Nat} {args : Array Value} (h : Calls Try.prog f args w (Ans P w)) (hp : P) : Calls Try.prog f args w fun e w' => e = .returned (.bool true) ∧ Frame [] w w' :=
  h.mono fun e w' ⟨b, he, hb, f⟩ => ⟨by rw [he, hb.2 hp], f⟩
theorem Ans.no {P : Prop} {w : World} {f : Nat} {args : Array Value} (h : Calls Try.prog f args w (Ans P w)) (hp : ¬ P) : Calls Try.prog f args w fun e w' => e = .returned (.bool false) ∧ Frame [] w w' :=
  h.mono fun e w' ⟨b, he, hb, f⟩ => ⟨by
    cases b with
    | true => exact absurd (hb.1 rfl) hp
    | false => exact he, f⟩
theorem Ans.mkT {P : Prop} {w w' : World} (h : P) (f : Frame [] w w') : Ans P w (.returned (.bool true)) w' := ⟨true, rfl, by simp [h], f⟩
theorem Ans.mkF {P : Prop} {w w' : World} (h : ¬ P) (f : Frame [] w w') : Ans P w (.returned (.bool false)) w' := ⟨false, rfl, by simp [h], f⟩
theorem take_one' {α : Type} {js : List α} {i : Nat} {j : α} (hj : js[i]? = some j) : js.take (i + 1) = js.take i ++ [j] := by
  rw [List.take_add_one, hj]; rfl
/-- A Bool tells whether P holds. -/
def MetB (b : Bool) (P : Prop) : Prop := b = true ↔ P
theorem MetB.t {P : Prop} (h : MetB true P) : P := Iff.mp h rfl
theorem MetB.f {P : Prop} (h : MetB false P) : ¬ P := fun p => by have := Iff.mpr h p; cases this
theorem MetB.mkT {P : Prop} (h : P) : MetB true P := ⟨fun _ => h, fun _ => rfl⟩
theorem MetB.mkF {P : Prop} (h : ¬ P) : MetB false P := ⟨(fun e => by cases e), fun p => absurd p h⟩
theorem mem_take_snoc {α : Type} {ys : List α} {c : Nat} {y x : α} (h : ys[c]? = some y) : x ∈ ys.take (c + 1) ↔ x ∈ ys.take c ∨ x = y := by
  rw [take_one' h]; simp
end Go.Proofs.Ytbnhhmejlglbcaa

namespace Go.Proofs.Ytbnhhmejlglbcaa
open Go.RowKit
set_option linter.unusedSimpArgs false
set_option linter.unusedVariables false

theorem addr_add (b off j : Nat) : (⟨b, off, none⟩ : Addr).add j = ⟨b, off + j, none⟩ := by
  unfold Addr.add; split <;> simp_all
theorem RF.flat {α : Type} {U : Nat → Prop} {w : World} {sz : Nat} {enc : α → List Value} {b off : Nat} {xs : List α} (h : RF U w sz enc (some ⟨b, off, none⟩) xs) (hsz : ∀ x, (enc x).length = sz) : ∀ j u, (xs.flatMap enc)[j]? = some u → w.cell? ((⟨b, off, none⟩ : Addr).add j) = some u := fun j u hj => by
  have hl := (List.getElem?_eq_some_iff.1 hj).1
  rw [flat_len hsz] at hl
  have h0 : 0 < sz := by rcases Nat.eq_zero_or_pos sz with h | h; subst h; simp at hl; exact h
  have hk : j / sz < xs.length := (Nat.div_lt_iff_lt_mul h0).2 hl
  have hi : j % sz < sz := Nat.mod_lt _ h0
  have e : j / sz * sz + j % sz = j := by rw [Nat.mul_comm]; exact Nat.div_add_mod _ _
  have hx : xs[j / sz]? = some xs[j / sz] := by simp [hk]
  have hi' : j % sz < (enc xs[j / sz]).length := by rw [hsz]; exact hi
  have hu : (enc xs[j / sz])[j % sz]? = some (enc xs[j / sz])[j % sz] := by simp [hi']
  have hf := flat_get hsz hx hu
  rw [e, hj] at hf
  simp at hf
  obtain ⟨b', off', e1, _, hc⟩ := h _ _ hx
  simp at e1
  obtain ⟨rfl, rfl⟩ := e1
  have := hc _ _ hu
  rw [addr_add, hf]
  rw [← this]
  congr 2
  omega

theorem run_append_zero {P : Program} {w : World} (base : Nat) (t ty e : TypeId) (i : TypeInfo) (size : Nat) (ht : P.underlying t = some (.slice e)) (hi : P.info? e = some i)
    (v : Value) (n : Nat) (xs : List Value) (hown : w.ownsRow base e size v n xs) (a : Option Addr) (c : Nat) :
    (Builtin.append_ #[t, t] ty #[v, .slice a 0 c]).run P w = .ok v w := by
  have hf : ∀ sz, (Builtin.firstCells sz 0 (.slice a 0 c)).run P w = .ok #[] w := fun sz => by
    cases a with
    | none => simp [Builtin.firstCells]
    | some p => exact run_firstCells_some (P := P) w sz 0 p 0 c [] (by simp) (by simp)
  rcases hown.2 with ⟨rfl, rfl⟩ | ⟨g, cap, cur, rfl, _, _, hnc, _⟩
  · simp [Builtin.append_, run_underlying ht, sizeOf, typeInfo, hi, Builtin.lenOf, hf]
  · simp [Builtin.append_, run_underlying ht, sizeOf, typeInfo, hi, Builtin.lenOf, hf, hnc, storeCells]

/-- What an append of what is read leaves: by lists. -/
def AppK {α : Type} (w : World) (e sz : Nat) (enc : α → List Value) (N : Nat) (zs : List α) (G : List Nat) (K : Value → World → Prop) : Prop :=
  ∀ a' cap' w' G', Sl w' e sz enc (.slice a' N cap') zs G' → Frame G w w' → (∀ x ∈ G', x ∈ G ∨ w.heap.size ≤ x) → K (.slice a' N cap') w'
theorem wp_append_rf {α : Type} {P : Program} {w : World} {o : Oper} {a : Act} {K : Act → World → Prop} {Q : Exit → Act → World → Prop}
    (s x : Operand) (t : TypeId) (hop : o.op = Op.call { callee := Callee.builtin Builtin.append, args := #[s, x], argTypes := #[t, t] })
    (e sz bytes : Nat) (z : Value) (enc : α → List Value) (h1 : P.underlying t = some (.slice e)) (hi : (P.info? e).map (fun i => (i.zero, i.size, i.bytes)) = some (some z, sz, bytes)) (h6 : z.cells.size = sz) (h7 : 0 < sz)
    (v : Value) (xs : List α) (n : Nat) (hln : xs.length = n) (G : List Nat) (hs : a.eval s = v) (hown : Sl w e sz enc v xs G)
    (U : Nat → Prop) (ad : Option Addr) (m c : Nat) (ys : List α) (hx : a.eval x = .slice ad m c) (hr : RF U w sz enc ad ys) (hm : ys.length = m) (hsz : ∀ x, (enc x).length = sz) (h1c : ∀ x, ∀ u ∈ enc x, u.oneCell' = true)
    (N : Nat) (hN : n + m = N) (b1 : N ≤ 1073741824) (b2 : bytes ≤ 1024)
    (hK : AppK w e sz enc N (xs ++ ys) G fun v' w' => K (a.put o.dst v') w') : o.wp P a w K Q := by
  subst hN
  subst hln
  obtain ⟨i0, h2, h3, h4, h5⟩ := info_parts hi
  rcases Nat.eq_zero_or_pos m with h0 | h0
  · subst h0
    have hys : ys = [] := List.eq_nil_of_length_eq_zero hm
    subst hys
    obtain ⟨a', cap', hv⟩ := hown.form
    have hrun := run_append_zero (P := P) 0 t o.type e i0 sz h1 h2 v xs.length (xs.flatMap enc) hown.owns ad c
    unfold Oper.wp execOp
    simp only [hop, resolve, invoke, builtin, Sem.run_bind, Sem.run_pure, Result.andThen_ok, List.map_toArray, List.map_cons, List.map_nil, hs, hx, hrun]
    subst hv
    exact hK a' cap' w G (by simpa using hown) (Frame.refl _ _) (fun x hx => .inl hx)
  · rcases hr.one with h | ⟨b, off, hb, _, _⟩
    · subst h; simp at hm; omega
    · subst hb
      refine wp_append_lies w s x t hop 0 e i0 z sz bytes h1 h2 h3 h4 h5 h6 h7 v xs.length (xs.flatMap enc) hs hown.owns ⟨b, off, none⟩ m c (ys.flatMap enc) hx (by rw [flat_len hsz, hm]) (hr.flat hsz) ?_ h0 (by unfold maxLen; omega) ?_ (Nat.zero_le _) _ rfl ?_
      · intro u hu
        obtain ⟨y, _, hy⟩ := List.mem_flatMap.1 hu
        exact h1c y u hy
      · calc (xs.length + m) * bytes ≤ 1073741824 * 1024 := Nat.mul_le_mul b1 b2
          _ ≤ 140737488355328 := by omega
      · intro g cap' w' q1 q2 q3 q4
        refine hK _ cap' w' [g] (.inr ⟨g, cap', by simp [hm], rfl, ?_⟩) (Frame.of_grown q2 (fun k hk => by rw [hown.own_block k hk]; simp)) ?_
        · have : RowAt w' g e sz (xs.length + m) cap' (xs.flatMap enc ++ ys.flatMap enc) := q1
          simpa [hm] using this
        · intro x hx
          simp at hx; subst hx
          rcases q3 with h | h
          · left; rw [hown.own_block x h]; simp
          · right; omega
theorem step_append_rf {α : Type} {P : Program} {w : World} {ops : Array Oper} {o : Oper} {a : Act} {K : Act → World → Prop} {Q : Exit → Act → World → Prop} {E : Prop}
    (hg : o.guard = none) (s x : Operand) (t : TypeId) (hop : o.op = Op.call { callee := Callee.builtin Builtin.append, args := #[s, x], argTypes := #[t, t] })
    (e sz bytes : Nat) (z : Value) (enc : α → List Value) (h1 : P.underlying t = some (.slice e)) (hi : (P.info? e).map (fun i => (i.zero, i.size, i.bytes)) = some (some z, sz, bytes)) (h6 : z.cells.size = sz) (h7 : 0 < sz)
    (v : Value) (xs : List α) (n : Nat) (hln : xs.length = n) (G : List Nat) (hs : a.eval s = v) (hown : Sl w e sz enc v xs G)
    (U : Nat → Prop) (ad : Option Addr) (m c : Nat) (ys : List α) (hx : a.eval x = .slice ad m c) (hr : RF U w sz enc ad ys) (hm : ys.length = m) (hsz : ∀ x, (enc x).length = sz) (h1c : ∀ x, ∀ u ∈ enc x, u.oneCell' = true)
    (N : Nat) (hN : n + m = N) (b1 : N ≤ 1073741824) (b2 : bytes ≤ 1024)
    (hK : AppK w e sz enc N (xs ++ ys) G fun v' w' => K (a.put o.dst v') w') : if Region.wanted o (yielded ops a.tmps) = true then Oper.wp P o a w K Q else E := by
  rw [if_pos (by simp [Region.wanted, hg])]
  exact wp_append_rf s x t hop e sz bytes z enc h1 hi h6 h7 v xs n hln G hs hown U ad m c ys hx hr hm hsz h1c N hN b1 b2 hK
theorem wpList_append_rf {α : Type} {P : Program} {w : World} {ops : Array Oper} {rest : List Oper} {o : Oper} {a : Act} {Q : Exit → Act → World → Prop}
    (hg : o.guard = none) (s x : Operand) (t : TypeId) (hop : o.op = Op.call { callee := Callee.builtin Builtin.append, args := #[s, x], argTypes := #[t, t] })
    (e sz bytes : Nat) (z : Value) (enc : α → List Value) (h1 : P.underlying t = some (.slice e)) (hi : (P.info? e).map (fun i => (i.zero, i.size, i.bytes)) = some (some z, sz, bytes)) (h6 : z.cells.size = sz) (h7 : 0 < sz)
    (v : Value) (xs : List α) (n : Nat) (hln : xs.length = n) (G : List Nat) (hs : a.eval s = v) (hown : Sl w e sz enc v xs G)
    (U : Nat → Prop) (ad : Option Addr) (m c : Nat) (ys : List α) (hx : a.eval x = .slice ad m c) (hr : RF U w sz enc ad ys) (hm : ys.length = m) (hsz : ∀ x, (enc x).length = sz) (h1c : ∀ x, ∀ u ∈ enc x, u.oneCell' = true)
    (N : Nat) (hN : n + m = N) (b1 : N ≤ 1073741824) (b2 : bytes ≤ 1024)
    (hK : AppK w e sz enc N (xs ++ ys) G fun v' w' => wpList P ops Q rest (a.put o.dst v') w') : wpList P ops Q (o :: rest) a w :=
  wpList_plain hg fun K hK' => wp_append_rf s x t hop e sz bytes z enc h1 hi h6 h7 v xs n hln G hs hown U ad m c ys hx hr hm hsz h1c N hN b1 b2 (fun a' cap' w' G' q1 q2 q3 => hK' _ _ (hK a' cap' w' G' q1 q2 q3))
/-- One element in a block of its own. -/
theorem rf_one {α : Type} {w : World} {b T sz : Nat} {enc : α → List Value} {cs : Array Value} (h : Blk w b T cs) (x : α) (hx : cs.toList = enc x) : RF (fun y => y = b) w sz enc (some ⟨b, 0, none⟩) [x] := fun k y hy => by
  cases k with
  | zero =>
    simp at hy
    subst hy
    refine ⟨b, 0, rfl, rfl, fun j u hu => ?_⟩
    rw [← hx] at hu
    have := h.at j (v := u) (by simpa using hu)
    simpa using this
  | succ k => simp at hy
/-- An empty row that has just been made. -/
theorem sl_empty {α : Type} (w : World) (e sz : Nat) (enc : α → List Value) : Sl (w.alloc (.cells #[] e)) e sz enc (.slice (some ⟨w.heap.size, 0, none⟩) 0 0) [] [w.heap.size] :=
  .inr ⟨w.heap.size, 0, rfl, rfl, RowAt.of_blk (Blk.new w e #[]) (Nat.zero_le _) (Nat.zero_le _) (by simp) (by simp)⟩
end Go.Proofs.Ytbnhhmejlglbcaa

