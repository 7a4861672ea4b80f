/- append of what is read, wherever it lies. A quiet region's comparison, by its run. The reference's small questions: name, place, Texts. Go's == and != at properties and edges. -/
import Derived.Test.YtolkmapdbilolaaMg08
import Derived.Deep.AppendLies
import Derived.Laws.OwnMore
import Derived.Test.YtolkmapdbilolaaMg01
import Derived.BigQuiet
import Derived.Laws.StructEq
namespace Go.Proofs.Ytolkmapdbilolaa
open Go.RowKit
set_option linter.unusedSimpArgs false
set_option linter.unusedVariables false

theorem addr_add (b off j : Nat) : (⟨b, off, none⟩ : Addr).add j = ⟨b, off + j, none⟩ := by
  unfold Addr.add; split <;> simp_all
theorem RF.flat {α : Type} {U : Nat → Prop} {w : World} {sz : Nat} {enc : α → List Value} {b off : Nat} {xs : List α} (h : RF U w sz enc (some ⟨b, off, none⟩) xs) (hsz : ∀ x, (enc x).length = sz) : ∀ j u, (xs.flatMap enc)[j]? = some u → w.cell? ((⟨b, off, none⟩ : Addr).add j) = some u := fun j u hj => by
  have hl := (List.getElem?_eq_some_iff.1 hj).1
  rw [flat_len hsz] at hl
  have h0 : 0 < sz := by rcases Nat.eq_zero_or_pos sz with h | h; subst h; simp at hl; exact h
  have hk : j / sz < xs.length := (Nat.div_lt_iff_lt_mul h0).2 hl
  have hi : j % sz < sz := Nat.mod_lt _ h0
  have e : j / sz * sz + j % sz = j := by rw [Nat.mul_comm]; exact Nat.div_add_mod _ _
  have hx : xs[j / sz]? = some xs[j / sz] := by simp [hk]
  have hi' : j % sz < (enc xs[j / sz]).length := by rw [hsz]; exact hi
  have hu : (enc xs[j / sz])[j % sz]? = some (enc xs[j / sz])[j % sz] := by simp [hi']
  have hf := flat_get hsz hx hu
  rw [e, hj] at hf
  simp at hf
  obtain ⟨b', off', e1, _, hc⟩ := h _ _ hx
  simp at e1
  obtain ⟨rfl, rfl⟩ := e1
  have := hc _ _ hu
  rw [addr_add, hf]
  rw [← this]
  congr 2
  omega

theorem run_append_zero {P : Program} {w : World} (base : Nat) (t ty e : TypeId) (i : TypeInfo) (size : Nat) (ht : P.underlying t = some (.slice e)) (hi : P.info? e = some i)
    (v : Value) (n : Nat) (xs : List Value) (hown : w.ownsRow base e size v n xs) (a : Option Addr) (c : Nat) :
    (Builtin.append_ #[t, t] ty #[v, .slice a 0 c]).run P w = .ok v w := by
  have hf : ∀ sz, (Builtin.firstCells sz 0 (.slice a 0 c)).run P w = .ok #[] w := fun sz => by
    cases a with
    | none => simp [Builtin.firstCells]
    | some p => exact run_firstCells_some (P := P) w sz 0 p 0 c [] (by simp) (by simp)
  rcases hown.2 with ⟨rfl, rfl⟩ | ⟨g, cap, cur, rfl, _, _, hnc, _⟩
  · simp [Builtin.append_, run_underlying ht, sizeOf, typeInfo, hi, Builtin.lenOf, hf]
  · simp [Builtin.append_, run_underlying ht, sizeOf, typeInfo, hi, Builtin.lenOf, hf, hnc, storeCells]

/-- What an append of what is read leaves: by lists. -/
def AppK {α : Type} (w : World) (e sz : Nat) (enc : α → List Value) (N : Nat) (zs : List α) (G : List Nat) (K : Value → World → Prop) : Prop :=
  ∀ a' cap' w' G', Sl w' e sz enc (.slice a' N cap') zs G' → Frame G w w' → (∀ x ∈ G', x ∈ G ∨ w.heap.size ≤ x) → K (.slice a' N cap') w'
theorem wp_append_rf {α : Type} {P : Program} {w : World} {o : Oper} {a : Act} {K : Act → World → Prop} {Q : Exit → Act → World → Prop}
    (s x : Operand) (t : TypeId) (hop : o.op = Op.call { callee := Callee.builtin Builtin.append, args := #[s, x], argTypes := #[t, t] })
    (e sz bytes : Nat) (z : Value) (enc : α → List Value) (h1 : P.underlying t = some (.slice e)) (hi : (P.info? e).map (fun i => (i.zero, i.size, i.bytes)) = some (some z, sz, bytes)) (h6 : z.cells.size = sz) (h7 : 0 < sz)
    (v : Value) (xs : List α) (n : Nat) (hln : xs.length = n) (G : List Nat) (hs : a.eval s = v) (hown : Sl w e sz enc v xs G)
    (U : Nat → Prop) (ad : Option Addr) (m c : Nat) (ys : List α) (hx : a.eval x = .slice ad m c) (hr : RF U w sz enc ad ys) (hm : ys.length = m) (hsz : ∀ x, (enc x).length = sz) (h1c : ∀ x, ∀ u ∈ enc x, u.oneCell' = true)
    (N : Nat) (hN : n + m = N) (b1 : N ≤ 1073741824) (b2 : bytes ≤ 1024)
    (hK : AppK w e sz enc N (xs ++ ys) G fun v' w' => K (a.put o.dst v') w') : o.wp P a w K Q := by
  subst hN
  subst hln
  obtain ⟨i0, h2, h3, h4, h5⟩ := info_parts hi
  rcases Nat.eq_zero_or_pos m with h0 | h0
  · subst h0
    have hys : ys = [] := List.eq_nil_of_length_eq_zero hm
    subst hys
    obtain ⟨a', cap', hv⟩ := hown.form
    have hrun := run_append_zero (P := P) 0 t o.type e i0 sz h1 h2 v xs.length (xs.flatMap enc) hown.owns ad c
    unfold Oper.wp execOp
    simp only [hop, resolve, invoke, builtin, Sem.run_bind, Sem.run_pure, Result.andThen_ok, List.map_toArray, List.map_cons, List.map_nil, hs, hx, hrun]
    subst hv
    exact hK a' cap' w G (by simpa using hown) (Frame.refl _ _) (fun x hx => .inl hx)
  · rcases hr.one with h | ⟨b, off, hb, _, _⟩
    · subst h; simp at hm; omega
    · subst hb
      refine wp_append_lies w s x t hop 0 e i0 z sz bytes h1 h2 h3 h4 h5 h6 h7 v xs.length (xs.flatMap enc) hs hown.owns ⟨b, off, none⟩ m c (ys.flatMap enc) hx (by rw [flat_len hsz, hm]) (hr.flat hsz) ?_ h0 (by unfold maxLen; omega) ?_ (Nat.zero_le _) _ rfl ?_
      · intro u hu
        obtain ⟨y, _, hy⟩ := List.mem_flatMap.1 hu
        exact h1c y u hy
      · calc (xs.length + m) * bytes ≤ 1073741824 * 1024 := Nat.mul_le_mul b1 b2
          _ ≤ 140737488355328 := by omega
      · intro g cap' w' q1 q2 q3 q4
        refine hK _ cap' w' [g] (.inr ⟨g, cap', by simp [hm], rfl, ?_⟩) (Frame.of_grown q2 (fun k hk => by rw [hown.own_block k hk]; simp)) ?_
        · have : RowAt w' g e sz (xs.length + m) cap' (xs.flatMap enc ++ ys.flatMap enc) := q1
          simpa [hm] using this
        · intro x hx
          simp at hx; subst hx
          rcases q3 with h | h
          · left; rw [hown.own_block x h]; simp
          · right; omega
theorem wpList_append_rf {α : Type} {P : Program} {w : World} {ops : Array Oper} {rest : List Oper} {o : Oper} {a : Act} {Q : Exit → Act → World → Prop}
    (hg : o.guard = none) (s x : Operand) (t : TypeId) (hop : o.op = Op.call { callee := Callee.builtin Builtin.append, args := #[s, x], argTypes := #[t, t] })
    (e sz bytes : Nat) (z : Value) (enc : α → List Value) (h1 : P.underlying t = some (.slice e)) (hi : (P.info? e).map (fun i => (i.zero, i.size, i.bytes)) = some (some z, sz, bytes)) (h6 : z.cells.size = sz) (h7 : 0 < sz)
    (v : Value) (xs : List α) (n : Nat) (hln : xs.length = n) (G : List Nat) (hs : a.eval s = v) (hown : Sl w e sz enc v xs G)
    (U : Nat → Prop) (ad : Option Addr) (m c : Nat) (ys : List α) (hx : a.eval x = .slice ad m c) (hr : RF U w sz enc ad ys) (hm : ys.length = m) (hsz : ∀ x, (enc x).length = sz) (h1c : ∀ x, ∀ u ∈ enc x, u.oneCell' = true)
    (N : Nat) (hN : n + m = N) (b1 : N ≤ 1073741824) (b2 : bytes ≤ 1024)
    (hK : AppK w e sz enc N (xs ++ ys) G fun v' w' => wpList P ops Q rest (a.put o.dst v') w') : wpList P ops Q (o :: rest) a w :=
  wpList_plain hg fun K hK' => wp_append_rf s x t hop e sz bytes z enc h1 hi h6 h7 v xs n hln G hs hown U ad m c ys hx hr hm hsz h1c N hN b1 b2 (fun a' cap' w' G' q1 q2 q3 => hK' _ _ (hK a' cap' w' G' q1 q2 q3))
/-- One element in a block of its own. -/
theorem rf_one {α : Type} {w : World} {b T sz : Nat} {enc : α → List Value} {cs : Array Value} (h : Blk w b T cs) (x : α) (hx : cs.toList = enc x) : RF (fun y => y = b) w sz enc (some ⟨b, 0, none⟩) [x] := fun k y hy => by
  cases k with
  | zero =>
    simp at hy
    subst hy
    refine ⟨b, 0, rfl, rfl, fun j u hu => ?_⟩
    rw [← hx] at hu
    have := h.at j (v := u) (by simpa using hu)
    simpa using this
  | succ k => simp at hy
/-- An empty row that has just been made. -/
theorem sl_empty {α : Type} (w : World) (e sz : Nat) (enc : α → List Value) : Sl (w.alloc (.cells #[] e)) e sz enc (.slice (some ⟨w.heap.size, 0, none⟩) 0 0) [] [w.heap.size] :=
  .inr ⟨w.heap.size, 0, rfl, rfl, RowAt.of_blk (Blk.new w e #[]) (Nat.zero_le _) (Nat.zero_le _) (by simp) (by simp)⟩
end Go.Proofs.Ytolkmapdbilolaa

namespace Go.Proofs.Ytolkmapdbilolaa
open Go.RowKit
theorem quiet_bin {P : Program} {C : World → Prop} {a : Act} {o : Oper} {K : Act → Prop} (b : BinOp) (t rt : TypeId) (x y : Operand) (u v z : Value) (h : o.op = .binOp b t x y rt) (hx : a.eval x = u) (hy : a.eval y = v)
    (hg : ∀ w, (eqGuard b t x y u v).run P w = .ok () w) (hr : ∀ w, C w → (binOp b t u v).run P w = .ok z w) (hk : K (a.put o.dst z)) : o.quiet P a C K :=
  ⟨_, fun w hw => by unfold Oper.quietAt; rw [show (execOp a.eval o).run P w = .ok (.value z) w from by simp [execOp, h, hx, hy, Sem.run_bind, Result.andThen, hg w, hr w hw]]; exact ⟨rfl, rfl⟩, hk⟩
end Go.Proofs.Ytolkmapdbilolaa
namespace Go.Proofs.Ytolkmapdbilolaa
open Go.RowKit
theorem noGuard : Try.prog.eqGuardType Try.prog.depth 39 = false := by kernel_rfl
theorem eqGuard_gate (x y : Operand) (u v : Array Value) (w : World) : (eqGuard .eql 39 x y (.agg u) (.agg v)).run Try.prog w = .ok () w := by
  have h := noGuard
  simp [eqGuard, Sem.run_bind, Result.andThen, go_sem, h]
end Go.Proofs.Ytolkmapdbilolaa

namespace Go.Proofs.Ytolkmapdbilolaa
open Go.RowKit
set_option linter.unusedSimpArgs false
set_option linter.unusedVariables false

theorem rname_any (s : ByteArray) (w : World) (hs : s.size ≤ 9223372036854775807) : Calls Try.prog 85 #[.string s] w fun e w' => e = .returned (.bool (namedB s)) ∧ w' = w := by
  by_cases h0 : 0 < s.size
  · by_cases h1 : s.size ≤ 20
    · have e : namedB s = true := by simp [namedB, h0, h1]
      rw [e]
      clear e
      have h2 : decide (1 ≤ (s.size : Int)) = true := by simp; omega
      go_enter Try.func85, Try.ntmps85
      go_wp2
      go_ret
      exact ⟨by simp; omega, rfl⟩
    · have e : namedB s = false := by simp [namedB, h0, h1]
      rw [e]
      clear e
      have h2 : decide (1 ≤ (s.size : Int)) = true := by simp; omega
      go_enter Try.func85, Try.ntmps85
      go_wp2
      go_ret
      exact ⟨by simp; omega, rfl⟩
  · have e : namedB s = false := by simp [namedB, h0]
    have e0 : s.size = 0 := by omega
    rw [e]
    clear e
    go_enter Try.func85, Try.ntmps85
    go_wp2
    go_ret
    exact ⟨rfl, rfl⟩

theorem beq_toList_true {x y : ByteArray} (h : x = y) : (x.toList == y.toList) = true := by subst h; simp
theorem beq_toList_false {x y : ByteArray} (h : x ≠ y) : (x.toList == y.toList) = false := by
  rw [beq_eq_false_iff_ne]
  intro e
  apply h
  exact ba_ext e

set_option maxHeartbeats 1000000 in
theorem texts_any (U1 U2 : Nat → Prop) (a1 a2 : Option Addr) (c1 c2 : Nat) (xs ys : List ByteArray) (w : World) (h1 : RF U1 w 1 encS a1 xs) (h2 : RF U2 w 1 encS a2 ys) (l1 : xs.length ≤ 1000000) (l2 : ys.length ≤ 1000000) :
    Calls Try.prog 90 #[.slice a1 xs.length c1, .slice a2 ys.length c2] w (Ans (xs = ys) w) := by
  have H1 := Lib.hid h1
  have H2 := Lib.hid h2
  clear h1 h2
  by_cases hlen : xs.length = ys.length
  · have HL := Lib.hid hlen
    have hle : ys.length ≤ xs.length := by omega
    have hge : xs.length ≤ ys.length := by omega
    have hn : ((xs.length : Int) != (ys.length : Int)) = false := by simp [hlen]
    clear hlen
    go_enter Try.func90, Try.ntmps90
    go_wp2_with fail
    go_loopw [5] (fun i wr => ∃ k : Nat, k ≤ xs.length ∧ i = .int .i64 k ∧ Hid (Frame [] w wr ∧ ∀ j, j < k → xs[j]? = ys[j]?)) (fun i _ => xs.length - (intOf i).toNat)
    case atStart => exact ⟨0, Nat.zero_le _, rfl, Frame.refl _ _, fun j h => by omega⟩
    case round =>
      obtain ⟨k, hk, rfl, hR⟩ := hrel
      by_cases hlt : k < xs.length
      · have g1 : xs[k]? = some xs[k] := by simp [hlt]
        have hlt2 : k < ys.length := by omega
        have g2 : ys[k]? = some ys[k] := by simp [hlt2]
        obtain ⟨b1, o1, rfl, -, q1⟩ := (H1.out.frame0 hR.out.1) k _ g1
        obtain ⟨b2, o2, rfl, -, q2⟩ := (H2.out.frame0 hR.out.1) k _ g2
        have d1 := q1 0 _ rfl
        have d2 := q2 0 _ rfl
        simp only [Nat.add_zero, Nat.mul_one] at d1 d2
        generalize xs[k] = x at *
        generalize ys[k] = y at *
        have G1 := Lib.hid g1
        have G2 := Lib.hid g2
        clear q1 q2 g1 g2
        by_cases hxy : x = y
        · have hb := beq_toList_true hxy
          have HX := Lib.hid hxy
          clear hxy
          go_wp2_with fail
          go_quiet (fail)
          go_wp2_with fail
          go_roundw
          case rel => exact ⟨k + 1, by omega, by first | rfl | go_num, Lib.hid ⟨hR.out.1.trans1 (by (repeat first | assumption | exact Frame.refl _ _ | refine Frame.trans1 ?_ (Frame.alloc _ _ _) | refine Frame.trans1 ?_ (Frame.drew _ _) | refine Frame.trans1 ?_ (Frame.drewN _ _ _))), fun j hj => by
            rcases Nat.lt_or_ge j k with h | h
            · exact hR.out.2 j h
            · obtain rfl : j = k := by omega
              rw [G1.out, G2.out, HX.out]⟩⟩
          case measure => first | (simp [intOf]; done) | (simp [intOf]; omega)
        · have hb := beq_toList_false hxy
          have HX := Lib.hid hxy
          clear hxy
          go_wp2_with fail
          go_quiet (fail)
          go_wp2_with fail
          go_ret
          refine Ans.mkF (fun e => ?_) (hR.out.1.trans1 (by (repeat first | assumption | exact Frame.refl _ _ | refine Frame.trans1 ?_ (Frame.alloc _ _ _) | refine Frame.trans1 ?_ (Frame.drew _ _) | refine Frame.trans1 ?_ (Frame.drewN _ _ _))))
          subst e
          have := G1.out.symm.trans G2.out
          simp at this
          exact HX.out this
      · obtain rfl : k = xs.length := by omega
        go_wp2_with fail
        go_ret
        refine Ans.mkT (List.ext_getElem? fun j => ?_) (hR.out.1.trans1 (by (repeat first | assumption | exact Frame.refl _ _ | refine Frame.trans1 ?_ (Frame.alloc _ _ _) | refine Frame.trans1 ?_ (Frame.drew _ _) | refine Frame.trans1 ?_ (Frame.drewN _ _ _))))
        rcases Nat.lt_or_ge j xs.length with h | h
        · exact hR.out.2 j h
        · rw [List.getElem?_eq_none h, List.getElem?_eq_none (by omega)]
  · have hn : ((xs.length : Int) != (ys.length : Int)) = true := by simp; omega
    have HL := Lib.hid hlen
    clear hlen
    go_enter Try.func90, Try.ntmps90
    go_wp2_with fail
    go_ret
    exact Ans.mkF (fun e => HL.out (by rw [e])) (Frame.refl _ _)

/-- Where a node stands; -1: it is not there. -/
def placeV (ns : List Nv) (t : Int) : Int := match (ns.map (·.1)).findIdx? (fun x => decide (x = t)) with | some k => k | none => -1
theorem placeV_at {ns : List Nv} {t : Int} {k : Nat} {n : Nv} (hk : ns[k]? = some n) (h : n.1 = t) (hj : ∀ j m, j < k → ns[j]? = some m → m.1 ≠ t) : placeV ns t = k := by
  have hlt : k < ns.length := (List.getElem?_eq_some_iff.1 hk).1
  have : (ns.map (·.1)).findIdx? (fun x => decide (x = t)) = some k := by
    rw [List.findIdx?_eq_some_iff_getElem]
    refine ⟨by simpa using hlt, ?_, fun j hj' => ?_⟩
    · have := (List.getElem?_eq_some_iff.1 hk).2
      simp [this, h]
    · have hjl : j < ns.length := by omega
      have := hj j ns[j] hj' (by simp [hjl])
      simpa using this
  simp [placeV, this]
theorem placeV_none {ns : List Nv} {t : Int} (hj : ∀ j m, j < ns.length → ns[j]? = some m → m.1 ≠ t) : placeV ns t = -1 := by
  have : (ns.map (·.1)).findIdx? (fun x => decide (x = t)) = none := by
    rw [List.findIdx?_eq_none_iff]
    intro x hx
    obtain ⟨m, hm, rfl⟩ := List.mem_map.1 hx
    obtain ⟨j, hjl, rfl⟩ := List.getElem_of_mem hm
    have := hj j ns[j] hjl (by simp [hjl])
    simpa using this
  simp [placeV, this]
set_option maxHeartbeats 1000000 in
theorem place_any (U : Nat → Prop) (an ae : Option Addr) (nc en ec : Nat) (ns : List Nv) (nx t : Int) (w : World) (h : RN U w an ns) (hl : ns.length ≤ 1000000) :
    Calls Try.prog 86 #[.agg #[.slice an ns.length nc, .slice ae en ec, .int .i64 nx], .int .i64 t] w fun e w' => e = .returned (.int .i64 (placeV ns t)) ∧ Frame [] w w' := by
  have H := Lib.hid h
  clear h
  go_enter Try.func86, Try.ntmps86
  go_wp2_with fail
  have fr : Frame [] w (w.alloc (.cells #[.slice an ns.length nc, .slice ae en ec, .int .i64 nx] 55)) := Frame.alloc _ _ _
  have b0 := Blk.new w 55 #[.slice an ns.length nc, .slice ae en ec, .int .i64 nx]
  generalize w.alloc (.cells #[.slice an ns.length nc, .slice ae en ec, .int .i64 nx] 55) = wa at *
  have B := Lib.hid b0
  have FR := Lib.hid fr
  clear b0 fr
  go_loopw [5] (fun i wr => ∃ k : Nat, k ≤ ns.length ∧ i = .int .i64 k ∧ Hid (Frame [] wa wr ∧ ∀ j m, j < k → ns[j]? = some m → m.1 ≠ t)) (fun i _ => ns.length - (intOf i).toNat)
  case atStart => exact ⟨0, Nat.zero_le _, rfl, Frame.refl _ _, fun j _ h => by omega⟩
  case round =>
    obtain ⟨k, hk, rfl, hR⟩ := hrel
    have z0 := (B.out.frame hR.out.1 (by simp)).at 0 rfl
    by_cases hlt : k < ns.length
    · have g1 : ns[k]? = some ns[k] := by simp [hlt]
      obtain ⟨b, off, la, lc, pa, pc, rfl, -, d0, -⟩ := ((H.out.frame0 FR.out).frame0 hR.out.1) k _ g1
      generalize ns[k] = n at *
      obtain ⟨i, ls, ps⟩ := n
      simp only at d0
      have G1 := Lib.hid g1
      clear g1
      by_cases hit : i = t
      · have hb : (i == t) = true := by simp [hit]
        have HX := Lib.hid hit
        clear hit
        go_wp2_with fail
        go_ret
        exact ⟨by rw [placeV_at G1.out HX.out hR.out.2]; rfl, FR.out.trans1 (hR.out.1.trans1 (by (repeat first | assumption | exact Frame.refl _ _ | refine Frame.trans1 ?_ (Frame.alloc _ _ _) | refine Frame.trans1 ?_ (Frame.drew _ _) | refine Frame.trans1 ?_ (Frame.drewN _ _ _))))⟩
      · have hb : (i == t) = false := by simp [hit]
        have HX := Lib.hid hit
        clear hit
        go_wp2_with fail
        go_roundw
        case rel => exact ⟨k + 1, by omega, by first | rfl | go_num, Lib.hid ⟨hR.out.1.trans1 (by (repeat first | assumption | exact Frame.refl _ _ | refine Frame.trans1 ?_ (Frame.alloc _ _ _) | refine Frame.trans1 ?_ (Frame.drew _ _) | refine Frame.trans1 ?_ (Frame.drewN _ _ _))), fun j m hj hm => by
          rcases Nat.lt_or_ge j k with h | h
          · exact hR.out.2 j m h hm
          · obtain rfl : j = k := by omega
            have := G1.out.symm.trans hm
            simp at this
            subst this
            exact HX.out⟩⟩
        case measure => first | (simp [intOf]; done) | (simp [intOf]; omega)
    · obtain rfl : k = ns.length := by omega
      go_wp2_with fail
      go_ret
      exact ⟨by rw [placeV_none hR.out.2]; rfl, FR.out.trans1 (hR.out.1.trans1 (by (repeat first | assumption | exact Frame.refl _ _ | refine Frame.trans1 ?_ (Frame.alloc _ _ _) | refine Frame.trans1 ?_ (Frame.drew _ _) | refine Frame.trans1 ?_ (Frame.drewN _ _ _))))⟩
end Go.Proofs.Ytolkmapdbilolaa

namespace Go.Proofs.Ytolkmapdbilolaa
open Go.RowKit
set_option linter.unusedSimpArgs false
set_option linter.unusedVariables false

def Pr.v (p : Pr) : Value := .agg #[.string p.name, .string p.val]
def Ed.v (e : Ed) : Value := .agg #[.int .i64 e.tok, .int .i64 e.src, .string e.lab, .int .i64 e.dst]
theorem toList_inj (x y : ByteArray) : (x.toList = y.toList) = (x = y) := propext ⟨ba_ext, fun h => by rw [h]⟩
theorem toList_eq_iff (x y : ByteArray) : (x.toList == y.toList) = decide (x = y) := by
  by_cases h : x = y
  · rw [beq_toList_true h, decide_eq_true h]
  · rw [beq_toList_false h, decide_eq_false h]
theorem eqIn_prop (p q : Pr) (w : World) : (Op.equalIn 10000 129 p.v q.v).run Try.prog w = .ok (decide (p = q)) w := by
  obtain ⟨p1, p2⟩ := p
  obtain ⟨q1, q2⟩ := q
  have hS : Try.prog.underlying 129 = some (.struct (Try.prog.fieldsOf 129)) := by kernel_rfl
  have hp : Try.prog.stoodInHeld 129 = false := by kernel_rfl
  have us := Try.underlying9
  simp only [Pr.v]
  rw [show (10000 : Nat) = 9999 + 1 from rfl, run_equalIn_agg w 9999 129 _ _ hS hp]
  simp only [Program.fieldsOf, Try.underlying129]
  go_simp
  by_cases h1 : p1 = q1 <;> by_cases h2 : p2 = q2 <;> simp [h1, h2, toList_inj]
theorem eqIn_edge (p q : Ed) (w : World) : (Op.equalIn 10000 49 p.v q.v).run Try.prog w = .ok (decide (p = q)) w := by
  obtain ⟨p1, p2, p3, p4⟩ := p
  obtain ⟨q1, q2, q3, q4⟩ := q
  have hS : Try.prog.underlying 49 = some (.struct (Try.prog.fieldsOf 49)) := by kernel_rfl
  have hp : Try.prog.stoodInHeld 49 = false := by kernel_rfl
  have us := Try.underlying9
  have ui := Try.underlying3
  simp only [Ed.v]
  rw [show (10000 : Nat) = 9999 + 1 from rfl, run_equalIn_agg w 9999 49 _ _ hS hp]
  simp only [Program.fieldsOf, Try.underlying49]
  go_simp
  by_cases h1 : p1 = q1 <;> by_cases h2 : p2 = q2 <;> by_cases h3 : p3 = q3 <;> by_cases h4 : p4 = q4 <;> simp [h1, h2, h3, h4, toList_inj]
theorem eql_prop (p q : Pr) (w : World) : (binOp .eql 129 p.v q.v).run Try.prog w = .ok (.bool (decide (p = q))) w := by
  have : (Op.equal 129 p.v q.v).run Try.prog w = .ok (decide (p = q)) w := eqIn_prop p q w
  simp only [Pr.v] at *
  simp [binOp, this]
theorem eql_edge (p q : Ed) (w : World) : (binOp .eql 49 p.v q.v).run Try.prog w = .ok (.bool (decide (p = q))) w := by
  have : (Op.equal 49 p.v q.v).run Try.prog w = .ok (decide (p = q)) w := eqIn_edge p q w
  simp only [Ed.v] at *
  simp [binOp, this]
theorem neq_prop (p q : Pr) (w : World) : (binOp .neq 129 p.v q.v).run Try.prog w = .ok (.bool (!decide (p = q))) w := by
  have : (Op.equal 129 p.v q.v).run Try.prog w = .ok (decide (p = q)) w := eqIn_prop p q w
  simp only [Pr.v] at *
  simp [binOp, this]
theorem neq_edge (p q : Ed) (w : World) : (binOp .neq 49 p.v q.v).run Try.prog w = .ok (.bool (!decide (p = q))) w := by
  have : (Op.equal 49 p.v q.v).run Try.prog w = .ok (decide (p = q)) w := eqIn_edge p q w
  simp only [Ed.v] at *
  simp [binOp, this]
theorem noGuardProp : Try.prog.eqGuardType Try.prog.depth 129 = false := by kernel_rfl
theorem noGuardEdge : Try.prog.eqGuardType Try.prog.depth 49 = false := by kernel_rfl
theorem guard_prop (b : BinOp) (x y : Operand) (u v : Array Value) (w : World) : (eqGuard b 129 x y (.agg u) (.agg v)).run Try.prog w = .ok () w := by
  have h := noGuardProp
  cases b <;> simp [eqGuard, Sem.run_bind, Result.andThen, go_sem, h]
theorem guard_edge (b : BinOp) (x y : Operand) (u v : Array Value) (w : World) : (eqGuard b 49 x y (.agg u) (.agg v)).run Try.prog w = .ok () w := by
  have h := noGuardEdge
  cases b <;> simp [eqGuard, Sem.run_bind, Result.andThen, go_sem, h]
end Go.Proofs.Ytolkmapdbilolaa

