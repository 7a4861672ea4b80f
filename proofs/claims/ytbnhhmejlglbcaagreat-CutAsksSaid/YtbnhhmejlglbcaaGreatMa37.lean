/- tansyref5.Subset: is each number of one list in another one? append of what is read, wherever it lies. A row of ints of one's own. -/
import Derived.Test.YtbnhhmejlglbcaaGreatMa28
import Derived.Test.YtbnhhmejlglbcaaGreatMa04
import Derived.IntWalk
import Derived.BigQuiet
import Derived.Deep.AppendLies
import Derived.Laws.OwnMore
import Derived.Test.YtbnhhmejlglbcaaGreatMa08
import Derived.Test.YtbnhhmejlglbcaaGreatMa09
namespace Go.Proofs.YtbnhhmejlglbcaaGreat
open Go.RowKit
set_option linter.unusedSimpArgs false
set_option linter.unusedVariables false

set_option maxHeartbeats 4000000 in
theorem subset_any (a1 a2 : Option Addr) (c1 c2 : Nat) (xs ys : List Int) (w : World) (h1 : RdI w a1 xs) (h2 : RdI w a2 ys) (l1 : xs.length ≤ 1000000) (l2 : ys.length ≤ 1000000) :
    Calls Tryz.prog 34 #[.slice a1 xs.length c1, .slice a2 ys.length c2] w (Ans (∀ x ∈ xs, x ∈ ys) w) := by
  have H1 := Lib.hid h1
  have H2 := Lib.hid h2
  clear h1 h2
  go_enter Tryz.func34, Tryz.ntmps34
  go_wp2_with fail
  go_loopw [5] (fun i wr => ∃ k : Nat, k ≤ xs.length ∧ i = .int .i64 k ∧ Hid (Frame [] w wr ∧ ∀ j x, j < k → xs[j]? = some x → x ∈ ys)) (fun i _ => xs.length - (intOf i).toNat)
  case atStart => exact ⟨0, Nat.zero_le _, rfl, Frame.refl _ _, fun j _ h => by omega⟩
  case round =>
    obtain ⟨k, hk, rfl, hR⟩ := hrel
    by_cases hlt : k < xs.length
    · have g1 : xs[k]? = some xs[k] := by simp [hlt]
      obtain ⟨b, off, rfl, hc⟩ := (H1.out.frame hR.out.1).at hlt
      generalize xs[k] = x at *
      have G1 := Lib.hid g1
      have HC := Lib.hid hc
      clear g1 hc
      go_wp2_with fail
      go_loopw [6, 7] (fun u v wq => ∃ (c : Nat) (met : Bool), c ≤ ys.length ∧ v = .int .i64 c ∧ u = .bool met ∧ Hid (Frame [] wr wq ∧ MetB met (x ∈ ys.take c))) (fun _ v _ => ys.length - (intOf v).toNat)
      case atStart => exact ⟨0, false, Nat.zero_le _, rfl, rfl, Frame.refl _ _, MetB.mkF (by simp)⟩
      case round =>
        obtain ⟨c, met, hcl, rfl, rfl, hQ⟩ := hrel
        rename World => wq
        by_cases hlt2 : c < ys.length
        · have g2 : ys[c]? = some ys[c] := by simp [hlt2]
          obtain ⟨b2, off2, rfl, hc2⟩ := (H2.out.frame (hR.out.1.trans1 hQ.out.1)).at hlt2
          have hc := hQ.out.1.cell HC.out (by simp)
          generalize ys[c] = y at *
          have G2 := Lib.hid g2
          clear g2
          cases met with
          | true =>
            go_wp2_with fail
            go_quiet (fail)
            go_wp2_with fail
            go_roundw
            case rel => exact ⟨c + 1, true, by omega, by first | rfl | go_num, rfl, Lib.hid ⟨hQ.out.1.trans1 (Frame.drewN _ _ _), MetB.mkT ((mem_take_snoc G2.out).2 (.inl hQ.out.2.t))⟩⟩
            case measure => first | (simp [intOf]; done) | (simp [intOf]; omega)
          | false =>
            by_cases hxy : x = y
            · have hb : (x == y) = true := by simp [hxy]
              have HX := Lib.hid hxy
              clear hxy
              go_wp2_with fail
              go_quiet (fail)
              go_wp2_with fail
              go_roundw
              case rel => exact ⟨c + 1, true, by omega, by first | rfl | go_num, rfl, Lib.hid ⟨hQ.out.1.trans1 (Frame.drewN _ _ _), MetB.mkT ((mem_take_snoc G2.out).2 (.inr HX.out))⟩⟩
              case measure => first | (simp [intOf]; done) | (simp [intOf]; omega)
            · have hb : (x == y) = false := by simp [hxy]
              have HX := Lib.hid hxy
              clear hxy
              go_wp2_with fail
              go_quiet (fail)
              go_wp2_with fail
              go_roundw
              case rel => exact ⟨c + 1, false, by omega, by first | rfl | go_num, rfl, Lib.hid ⟨hQ.out.1.trans1 (Frame.drewN _ _ _), MetB.mkF (fun h => ((mem_take_snoc G2.out).1 h).elim hQ.out.2.f HX.out)⟩⟩
              case measure => first | (simp [intOf]; done) | (simp [intOf]; omega)
        · obtain rfl : c = ys.length := by omega
          have hmem : Hid (MetB met (x ∈ ys)) := by
            show MetB met (x ∈ ys)
            have := hQ.out.2; rw [List.take_length] at this; exact this
          cases met with
          | true =>
            go_wp2_with fail
            go_roundw
            case rel => exact ⟨k + 1, by omega, by first | rfl | go_num, Lib.hid ⟨hR.out.1.trans1 (hQ.out.1.trans1 (by (repeat first | assumption | exact Frame.refl _ _ | refine Frame.trans1 ?_ (Frame.alloc _ _ _) | refine Frame.trans1 ?_ (Frame.drew _ _) | refine Frame.trans1 ?_ (Frame.drewN _ _ _)))), fun j z hj hz => by
              rcases Nat.lt_or_ge j k with h | h
              · exact hR.out.2 j z h hz
              · obtain rfl : j = k := by omega
                have := G1.out.symm.trans hz
                simp at this
                subst this
                exact hmem.out.t⟩⟩
            case measure => first | (simp [intOf]; done) | (simp [intOf]; omega)
          | false =>
            go_wp2_with fail
            go_ret
            exact Ans.mkF (fun h => hmem.out.f (h x (List.mem_of_getElem? G1.out))) (hR.out.1.trans1 (hQ.out.1.trans1 (by (repeat first | assumption | exact Frame.refl _ _ | refine Frame.trans1 ?_ (Frame.alloc _ _ _) | refine Frame.trans1 ?_ (Frame.drew _ _) | refine Frame.trans1 ?_ (Frame.drewN _ _ _)))))
    · obtain rfl : k = xs.length := by omega
      go_wp2_with fail
      go_ret
      exact Ans.mkT (fun x hx => by
        obtain ⟨j, hj, rfl⟩ := List.getElem_of_mem hx
        exact hR.out.2 j xs[j] hj (by simp)) (hR.out.1.trans1 (by (repeat first | assumption | exact Frame.refl _ _ | refine Frame.trans1 ?_ (Frame.alloc _ _ _) | refine Frame.trans1 ?_ (Frame.drew _ _) | refine Frame.trans1 ?_ (Frame.drewN _ _ _))))
end Go.Proofs.YtbnhhmejlglbcaaGreat

namespace Go.Proofs.YtbnhhmejlglbcaaGreat
open Go.RowKit
set_option linter.unusedSimpArgs false
set_option linter.unusedVariables false

theorem addr_add (b off j : Nat) : (⟨b, off, none⟩ : Addr).add j = ⟨b, off + j, none⟩ := by
  unfold Addr.add; split <;> simp_all
theorem RF.flat {α : Type} {U : Nat → Prop} {w : World} {sz : Nat} {enc : α → List Value} {b off : Nat} {xs : List α} (h : RF U w sz enc (some ⟨b, off, none⟩) xs) (hsz : ∀ x, (enc x).length = sz) : ∀ j u, (xs.flatMap enc)[j]? = some u → w.cell? ((⟨b, off, none⟩ : Addr).add j) = some u := fun j u hj => by
  have hl := (List.getElem?_eq_some_iff.1 hj).1
  rw [flat_len hsz] at hl
  have h0 : 0 < sz := by rcases Nat.eq_zero_or_pos sz with h | h; subst h; simp at hl; exact h
  have hk : j / sz < xs.length := (Nat.div_lt_iff_lt_mul h0).2 hl
  have hi : j % sz < sz := Nat.mod_lt _ h0
  have e : j / sz * sz + j % sz = j := by rw [Nat.mul_comm]; exact Nat.div_add_mod _ _
  have hx : xs[j / sz]? = some xs[j / sz] := by simp [hk]
  have hi' : j % sz < (enc xs[j / sz]).length := by rw [hsz]; exact hi
  have hu : (enc xs[j / sz])[j % sz]? = some (enc xs[j / sz])[j % sz] := by simp [hi']
  have hf := flat_get hsz hx hu
  rw [e, hj] at hf
  simp at hf
  obtain ⟨b', off', e1, _, hc⟩ := h _ _ hx
  simp at e1
  obtain ⟨rfl, rfl⟩ := e1
  have := hc _ _ hu
  rw [addr_add, hf]
  rw [← this]
  congr 2
  omega

theorem run_append_zero {P : Program} {w : World} (base : Nat) (t ty e : TypeId) (i : TypeInfo) (size : Nat) (ht : P.underlying t = some (.slice e)) (hi : P.info? e = some i)
    (v : Value) (n : Nat) (xs : List Value) (hown : w.ownsRow base e size v n xs) (a : Option Addr) (c : Nat) :
    (Builtin.append_ #[t, t] ty #[v, .slice a 0 c]).run P w = .ok v w := by
  have hf : ∀ sz, (Builtin.firstCells sz 0 (.slice a 0 c)).run P w = .ok #[] w := fun sz => by
    cases a with
    | none => simp [Builtin.firstCells]
    | some p => exact run_firstCells_some (P := P) w sz 0 p 0 c [] (by simp) (by simp)
  rcases hown.2 with ⟨rfl, rfl⟩ | ⟨g, cap, cur, rfl, _, _, hnc, _⟩
  · simp [Builtin.append_, run_underlying ht, sizeOf, typeInfo, hi, Builtin.lenOf, hf]
  · simp [Builtin.append_, run_underlying ht, sizeOf, typeInfo, hi, Builtin.lenOf, hf, hnc, storeCells]

/-- What an append of what is read leaves: by lists. -/
def AppK {α : Type} (w : World) (e sz : Nat) (enc : α → List Value) (N : Nat) (zs : List α) (G : List Nat) (K : Value → World → Prop) : Prop :=
  ∀ a' cap' w' G', Sl w' e sz enc (.slice a' N cap') zs G' → Frame G w w' → (∀ x ∈ G', x ∈ G ∨ w.heap.size ≤ x) → K (.slice a' N cap') w'
theorem wp_append_rf {α : Type} {P : Program} {w : World} {o : Oper} {a : Act} {K : Act → World → Prop} {Q : Exit → Act → World → Prop}
    (s x : Operand) (t : TypeId) (hop : o.op = Op.call { callee := Callee.builtin Builtin.append, args := #[s, x], argTypes := #[t, t] })
    (e sz bytes : Nat) (z : Value) (enc : α → List Value) (h1 : P.underlying t = some (.slice e)) (hi : (P.info? e).map (fun i => (i.zero, i.size, i.bytes)) = some (some z, sz, bytes)) (h6 : z.cells.size = sz) (h7 : 0 < sz)
    (v : Value) (xs : List α) (n : Nat) (hln : xs.length = n) (G : List Nat) (hs : a.eval s = v) (hown : Sl w e sz enc v xs G)
    (U : Nat → Prop) (ad : Option Addr) (m c : Nat) (ys : List α) (hx : a.eval x = .slice ad m c) (hr : RF U w sz enc ad ys) (hm : ys.length = m) (hsz : ∀ x, (enc x).length = sz) (h1c : ∀ x, ∀ u ∈ enc x, u.oneCell' = true)
    (N : Nat) (hN : n + m = N) (b1 : N ≤ 1073741824) (b2 : bytes ≤ 1024)
    (hK : AppK w e sz enc N (xs ++ ys) G fun v' w' => K (a.put o.dst v') w') : o.wp P a w K Q := by
  subst hN
  subst hln
  obtain ⟨i0, h2, h3, h4, h5⟩ := info_parts hi
  rcases Nat.eq_zero_or_pos m with h0 | h0
  · subst h0
    have hys : ys = [] := List.eq_nil_of_length_eq_zero hm
    subst hys
    obtain ⟨a', cap', hv⟩ := hown.form
    have hrun := run_append_zero (P := P) 0 t o.type e i0 sz h1 h2 v xs.length (xs.flatMap enc) hown.owns ad c
    unfold Oper.wp execOp
    simp only [hop, resolve, invoke, builtin, Sem.run_bind, Sem.run_pure, Result.andThen_ok, List.map_toArray, List.map_cons, List.map_nil, hs, hx, hrun]
    subst hv
    exact hK a' cap' w G (by simpa using hown) (Frame.refl _ _) (fun x hx => .inl hx)
  · rcases hr.one with h | ⟨b, off, hb, _, _⟩
    · subst h; simp at hm; omega
    · subst hb
      refine wp_append_lies w s x t hop 0 e i0 z sz bytes h1 h2 h3 h4 h5 h6 h7 v xs.length (xs.flatMap enc) hs hown.owns ⟨b, off, none⟩ m c (ys.flatMap enc) hx (by rw [flat_len hsz, hm]) (hr.flat hsz) ?_ h0 (by unfold maxLen; omega) ?_ (Nat.zero_le _) _ rfl ?_
      · intro u hu
        obtain ⟨y, _, hy⟩ := List.mem_flatMap.1 hu
        exact h1c y u hy
      · calc (xs.length + m) * bytes ≤ 1073741824 * 1024 := Nat.mul_le_mul b1 b2
          _ ≤ 140737488355328 := by omega
      · intro g cap' w' q1 q2 q3 q4
        refine hK _ cap' w' [g] (.inr ⟨g, cap', by simp [hm], rfl, ?_⟩) (Frame.of_grown q2 (fun k hk => by rw [hown.own_block k hk]; simp)) ?_
        · have : RowAt w' g e sz (xs.length + m) cap' (xs.flatMap enc ++ ys.flatMap enc) := q1
          simpa [hm] using this
        · intro x hx
          simp at hx; subst hx
          rcases q3 with h | h
          · left; rw [hown.own_block x h]; simp
          · right; omega
theorem step_append_rf {α : Type} {P : Program} {w : World} {ops : Array Oper} {o : Oper} {a : Act} {K : Act → World → Prop} {Q : Exit → Act → World → Prop} {E : Prop}
    (hg : o.guard = none) (s x : Operand) (t : TypeId) (hop : o.op = Op.call { callee := Callee.builtin Builtin.append, args := #[s, x], argTypes := #[t, t] })
    (e sz bytes : Nat) (z : Value) (enc : α → List Value) (h1 : P.underlying t = some (.slice e)) (hi : (P.info? e).map (fun i => (i.zero, i.size, i.bytes)) = some (some z, sz, bytes)) (h6 : z.cells.size = sz) (h7 : 0 < sz)
    (v : Value) (xs : List α) (n : Nat) (hln : xs.length = n) (G : List Nat) (hs : a.eval s = v) (hown : Sl w e sz enc v xs G)
    (U : Nat → Prop) (ad : Option Addr) (m c : Nat) (ys : List α) (hx : a.eval x = .slice ad m c) (hr : RF U w sz enc ad ys) (hm : ys.length = m) (hsz : ∀ x, (enc x).length = sz) (h1c : ∀ x, ∀ u ∈ enc x, u.oneCell' = true)
    (N : Nat) (hN : n + m = N) (b1 : N ≤ 1073741824) (b2 : bytes ≤ 1024)
    (hK : AppK w e sz enc N (xs ++ ys) G fun v' w' => K (a.put o.dst v') w') : if Region.wanted o (yielded ops a.tmps) = true then Oper.wp P o a w K Q else E := by
  rw [if_pos (by simp [Region.wanted, hg])]
  exact wp_append_rf s x t hop e sz bytes z enc h1 hi h6 h7 v xs n hln G hs hown U ad m c ys hx hr hm hsz h1c N hN b1 b2 hK
theorem wpList_append_rf {α : Type} {P : Program} {w : World} {ops : Array Oper} {rest : List Oper} {o : Oper} {a : Act} {Q : Exit → Act → World → Prop}
    (hg : o.guard = none) (s x : Operand) (t : TypeId) (hop : o.op = Op.call { callee := Callee.builtin Builtin.append, args := #[s, x], argTypes := #[t, t] })
    (e sz bytes : Nat) (z : Value) (enc : α → List Value) (h1 : P.underlying t = some (.slice e)) (hi : (P.info? e).map (fun i => (i.zero, i.size, i.bytes)) = some (some z, sz, bytes)) (h6 : z.cells.size = sz) (h7 : 0 < sz)
    (v : Value) (xs : List α) (n : Nat) (hln : xs.length = n) (G : List Nat) (hs : a.eval s = v) (hown : Sl w e sz enc v xs G)
    (U : Nat → Prop) (ad : Option Addr) (m c : Nat) (ys : List α) (hx : a.eval x = .slice ad m c) (hr : RF U w sz enc ad ys) (hm : ys.length = m) (hsz : ∀ x, (enc x).length = sz) (h1c : ∀ x, ∀ u ∈ enc x, u.oneCell' = true)
    (N : Nat) (hN : n + m = N) (b1 : N ≤ 1073741824) (b2 : bytes ≤ 1024)
    (hK : AppK w e sz enc N (xs ++ ys) G fun v' w' => wpList P ops Q rest (a.put o.dst v') w') : wpList P ops Q (o :: rest) a w :=
  wpList_plain hg fun K hK' => wp_append_rf s x t hop e sz bytes z enc h1 hi h6 h7 v xs n hln G hs hown U ad m c ys hx hr hm hsz h1c N hN b1 b2 (fun a' cap' w' G' q1 q2 q3 => hK' _ _ (hK a' cap' w' G' q1 q2 q3))
/-- One element in a block of its own. -/
theorem rf_one {α : Type} {w : World} {b T sz : Nat} {enc : α → List Value} {cs : Array Value} (h : Blk w b T cs) (x : α) (hx : cs.toList = enc x) : RF (fun y => y = b) w sz enc (some ⟨b, 0, none⟩) [x] := fun k y hy => by
  cases k with
  | zero =>
    simp at hy
    subst hy
    refine ⟨b, 0, rfl, rfl, fun j u hu => ?_⟩
    rw [← hx] at hu
    have := h.at j (v := u) (by simpa using hu)
    simpa using this
  | succ k => simp at hy
/-- An empty row that has just been made. -/
theorem sl_empty {α : Type} (w : World) (e sz : Nat) (enc : α → List Value) : Sl (w.alloc (.cells #[] e)) e sz enc (.slice (some ⟨w.heap.size, 0, none⟩) 0 0) [] [w.heap.size] :=
  .inr ⟨w.heap.size, 0, rfl, rfl, RowAt.of_blk (Blk.new w e #[]) (Nat.zero_le _) (Nat.zero_le _) (by simp) (by simp)⟩
end Go.Proofs.YtbnhhmejlglbcaaGreat

namespace Go.Proofs.YtbnhhmejlglbcaaGreat
open Go.RowKit
set_option linter.unusedSimpArgs false
set_option linter.unusedVariables false

def IRow (w : World) (b n : Nat) (m : Nat → Int) : Prop := RowAt w b 3 1 n n ((List.range n).map fun j => Value.int .i64 (m j))
theorem made_ints (n : Nat) : madeCells #[Value.int .i64 0] n = (List.replicate n (Value.int .i64 0)).toArray := by
  apply Array.ext
  · simp [madeCells]
  · intro i h1 h2
    simp [madeCells, Nat.mod_one]
set_option maxRecDepth 100000 in
theorem run_make_ints (n : Nat) (w : World) (hn : n ≤ 1000000) : (Instr.makeSlice 50 (.int .i64 n) (.int .i64 n)).run Tryz.prog w = .ok (.slice (some ⟨w.heap.size, 0, none⟩) n n) (w.alloc (.cells (List.replicate n (Value.int .i64 0)).toArray 3)) := by
  obtain ⟨i0, h2, h3, h4, h5⟩ := info_parts infoInt
  have hm := run_make (P := Tryz.prog) w 50 3 i0 _ Tryz.underlying50 h2 h3 .i64 .i64 n n (by omega) (Int.le_refl _) (by rw [h5]; omega) (by omega)
  rw [h4, Nat.mul_one, show ((n : Int)).toNat = n from Int.toNat_natCast n] at hm
  rw [← made_ints]
  exact hm
theorem IRow.frame {w w' : World} {b n : Nat} {m : Nat → Int} {S : List Nat} (h : IRow w b n m) (f : Frame S w w') (hb : b ∉ S) : IRow w' b n m := RowAt.frame h f hb
theorem IRow.lt {w : World} {b n : Nat} {m : Nat → Int} (h : IRow w b n m) : b < w.heap.size := RowAt.lt h
theorem IRow.at {w : World} {b n : Nat} {m : Nat → Int} (h : IRow w b n m) {j : Nat} (hj : j < n) : w.cell? ⟨b, j, none⟩ = some (.int .i64 (m j)) := RowAt.cell h (by simp [hj])
theorem IRow.frozen {w : World} {b n : Nat} {m : Nat → Int} (h : IRow w b n m) (j : Nat) : w.frozen? ⟨b, j, none⟩ = false := RowAt.frozen h j
theorem IRow.put {w : World} {b n : Nat} {m : Nat → Int} (h : IRow w b n m) {x : Nat} (hx : x < n) (v : Int) : IRow (w.setCell ⟨b, x, none⟩ (.int .i64 v)) b n (fun j => if j = x then v else m j) := by
  obtain ⟨cs, h1, h2, h3, h4, h5⟩ := RowAt.blk h
  refine RowAt.of_blk (h1.set _ _) h2 h3 (by simpa using h4) ?_
  rw [Array.toList_setIfInBounds, List.take_set, h5]
  apply List.ext_getElem
  · simp
  · intro i g1 g2
    simp only [List.getElem_set, List.getElem_map, List.getElem_range]
    by_cases e : x = i
    · subst e; simp
    · rw [if_neg e, if_neg (fun h => e h.symm)]
theorem IRow.new (w : World) (n : Nat) (hn : n ≤ 1000000) : IRow (w.alloc (.cells (Array.replicate n (Value.int .i64 0)) 3)) w.heap.size n (fun _ => 0) := by
  have : IRow (w.alloc (.cells (List.replicate n (Value.int .i64 0)).toArray 3)) w.heap.size n (fun _ => 0) := by
    refine RowAt.of_blk (Blk.new _ _ _) (Nat.le_refl _) (by unfold maxLen; omega) (by simp) ?_
    rw [List.take_of_length_le (by simp)]
    apply List.ext_getElem <;> simp
  simpa using this
end Go.Proofs.YtbnhhmejlglbcaaGreat

