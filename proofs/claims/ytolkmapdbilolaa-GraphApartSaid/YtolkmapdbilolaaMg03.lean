/- Binary search over a graph's edges, and its nodes. Runs of cells written into a block; clear at several cells. -/
import Derived.Test.YtolkmapdbilolaaMg01
import Derived.Laws.IdiomCopy
import Derived.Lib.SliceRun
import Derived.Laws.Append
import Derived.Lib.Overlaps
import Derived.Lib.AppendZerosOnto
import Derived.Lib.JoinLaws
namespace Go.Proofs.Ytolkmapdbilolaa
open Go.RowKit
set_option linter.unusedSimpArgs false
set_option linter.unusedVariables false

set_option maxRecDepth 100000 in
theorem bsf_edge (a : Option Addr) (cap : Nat) (xs : List Ed) (G : List Nat) (t : Int) (w : World) (h : Sl w 49 4 Ed.cs (.slice a xs.length cap) xs G) (hu : Up (xs.map (·.tok))) (hn : xs.length ≤ 1073741824) :
    Calls Try.prog 119 #[.slice a xs.length cap, .int .i64 t, .func (.func 120) #[] #[]] w fun e w' => e = .returned (.tuple #[.int .i64 (rank (xs.map (·.tok)) t), .bool (decide (t ∈ xs.map (·.tok)))]) ∧ Frame [] w w' := by
  have S := Lib.hid h
  have U := Lib.hid hu
  clear h hu
  generalize hr : rank (xs.map (·.tok)) t = r
  generalize hd : decide (t ∈ xs.map (·.tok)) = d
  have HR := Lib.hid hr
  have HD := Lib.hid hd
  clear hr hd
  go_enter Try.func119, Try.ntmps119
  go_wp2_with fail
  go_loopw [9, 10] (fun u v wr => ∃ lo hi : Nat, u = .int .i64 lo ∧ v = .int .i64 hi ∧ lo ≤ hi ∧ hi ≤ xs.length ∧ Frame [] w wr ∧ Hid ((∀ i (h : i < xs.length), i < lo → xs[i].tok < t) ∧ (∀ i (h : i < xs.length), hi ≤ i → t ≤ xs[i].tok))) (fun u v _ => (intOf v).toNat - (intOf u).toNat)
  case atStart => exact ⟨0, xs.length, rfl, rfl, Nat.zero_le _, Nat.le_refl _, Frame.refl _ _, fun i h hi => absurd hi (Nat.not_lt_zero _), fun i h hi => by omega⟩
  case round =>
    obtain ⟨lo, hi, rfl, rfl, hlh, hin, hf, hI⟩ := hrel
    have s2 := S.out.frame0 hf
    by_cases hlt : lo < hi
    · have hm : (lo + hi) / 2 < xs.length := by omega
      have hx : xs[(lo + hi) / 2]? = some xs[(lo + hi) / 2] := by simp [hm]
      obtain ⟨b9, c9, e9, _, _, hc⟩ := s2.cell ed_len hx
      injection e9 with e9 _ e92
      subst e9 e92
      have q0 := hc 0 _ rfl
      have q1 := hc 1 _ rfl
      have q2 := hc 2 _ rfl
      have q3 := hc 3 _ rfl
      simp only [Nat.add_zero] at q0
      have hcmp := fun w => cmp_edge xs[(lo + hi) / 2] t w
      have hmono : ∀ i (h : i < xs.length), i ≤ (lo + hi) / 2 → xs[i].tok ≤ xs[(lo + hi) / 2].tok := by
        intro i h hle
        rcases Nat.lt_or_ge i ((lo + hi) / 2) with q | q
        · have := (List.pairwise_iff_getElem.1 U.out) i ((lo + hi) / 2) (by simpa using h) (by simpa using hm) q
          simp at this; omega
        · obtain rfl : i = (lo + hi) / 2 := by omega
          exact Int.le_refl _
      have hmono2 : ∀ i (h : i < xs.length), (lo + hi) / 2 ≤ i → xs[(lo + hi) / 2].tok ≤ xs[i].tok := by
        intro i h hle
        rcases Nat.lt_or_ge ((lo + hi) / 2) i with q | q
        · have := (List.pairwise_iff_getElem.1 U.out) ((lo + hi) / 2) i (by simpa using hm) (by simpa using h) q
          simp at this; omega
        · obtain rfl : i = (lo + hi) / 2 := by omega
          exact Int.le_refl _
      have M1 := Lib.hid hmono
      have M2 := Lib.hid hmono2
      clear hmono hmono2 hx hc s2
      have HF := Lib.hid hf
      clear hf
      generalize hxx : xs[(lo + hi) / 2] = x at *
      have HX := Lib.hid hxx
      clear hxx
      have HC := Lib.hid hcmp
      clear hcmp
      by_cases hk : x.tok < t
      · have hneg : cmpI x.tok t < 0 := (cmpI_neg _ _).2 hk
        go_wp2_with fail
        refine (HC.out _).mono ?_
        rintro e w3 ⟨rfl, f3⟩
        have F3 := Lib.hid f3
        clear f3
        go_wp2_with fail
        go_roundw
        case rel => exact ⟨(lo + hi) / 2 + 1, hi, by go_num, rfl, by omega, hin, HF.out.trans1 F3.out, fun i h hi' => by have := M1.out i h (by omega); omega, hI.out.2⟩
        case measure => simp [intOf]; omega
      · have hneg : ¬ cmpI x.tok t < 0 := fun h => hk ((cmpI_neg _ _).1 h)
        go_wp2_with fail
        refine (HC.out _).mono ?_
        rintro e w3 ⟨rfl, f3⟩
        have F3 := Lib.hid f3
        clear f3
        go_wp2_with fail
        go_roundw
        case rel => exact ⟨lo, (lo + hi) / 2, rfl, by go_num, by omega, by omega, HF.out.trans1 F3.out, hI.out.1, fun i h hi' => by have := M2.out i h hi'; omega⟩
        case measure => simp [intOf]; omega
    · obtain rfl : lo = hi := by omega
      have hr : rank (xs.map (·.tok)) t = lo := rank_of (by simpa using hin) (fun i h hi => by simpa using hI.out.1 i (by simpa using h) hi) (fun i h hi => by simpa using hI.out.2 i (by simpa using h) hi)
      have hme0 : True := trivial
      have hme := rank_mem (t := t) (r := lo) (by simpa using hin) (fun i h hi => by simpa using hI.out.1 i (by simpa using h) hi) U.out (fun i h hi => by simpa using hI.out.2 i (by simpa using h) hi)
      rw [HR.out] at hr
      rw [HD.out] at hme
      have hr2 := hr.symm
      clear hr
      subst hr2
      clear hme0
      by_cases hl : lo < xs.length
      · have hx : xs[lo]? = some xs[lo] := by simp [hl]
        obtain ⟨b9, c9, e9, _, _, hc⟩ := s2.cell ed_len hx
        injection e9 with e9 _ e92
        subst e9 e92
        have q0 := hc 0 _ rfl
        have q1 := hc 1 _ rfl
        have q2 := hc 2 _ rfl
        have q3 := hc 3 _ rfl
        simp only [Nat.add_zero] at q0
        have hcmp := fun w => cmp_edge xs[lo] t w
        have hget : (xs.map (·.tok))[lo]? = some xs[lo].tok := by simp [hl]
        rw [hget] at hme
        have HF := Lib.hid hf
        clear hx hc s2 hf hget
        generalize xs[lo] = x at *
        have HC := Lib.hid hcmp
        clear hcmp
        by_cases hk : x.tok = t
        · have h0 : cmpI x.tok t = 0 := (cmpI_zero _ _).2 hk
          have hd : decide (some x.tok = some t) = true := by simp [hk]
          rw [hd] at hme
          subst hme
          have h1 : (cmpI x.tok t == 0) = true := by simp [h0]
          clear h0 hd hk
          go_wp2_with fail
          refine (HC.out _).mono ?_
          rintro e w3 ⟨rfl, f3⟩
          have F3 := Lib.hid f3
          clear f3
          go_wp2_with fail
          go_ret2
          exact ⟨rfl, HF.out.trans1 F3.out⟩
        · have h0 : ¬ cmpI x.tok t = 0 := fun h => hk ((cmpI_zero _ _).1 h)
          have hd : decide (some x.tok = some t) = false := by simp [hk]
          rw [hd] at hme
          subst hme
          have h1 : (cmpI x.tok t == 0) = false := by simp [h0]
          clear h0 hd hk
          go_wp2_with fail
          refine (HC.out _).mono ?_
          rintro e w3 ⟨rfl, f3⟩
          have F3 := Lib.hid f3
          clear f3
          go_wp2_with fail
          go_ret2
          exact ⟨rfl, HF.out.trans1 F3.out⟩
      · have hd : decide ((xs.map (·.tok))[lo]? = some t) = false := by rw [List.getElem?_eq_none (by simp; omega)]; simp
        rw [hd] at hme
        subst hme
        have HF := Lib.hid hf
        clear hd s2 hf
        go_wp2_with fail
        go_ret2
        exact ⟨rfl, HF.out⟩

set_option maxRecDepth 100000 in
theorem bsf_node (a : Option Addr) (cap : Nat) (xs : List Nd) (G : List Nat) (t : Int) (w : World) (h : Sl w 86 3 Nd.cs (.slice a xs.length cap) xs G) (hu : Up (xs.map (·.id))) (hn : xs.length ≤ 1073741824) :
    Calls Try.prog 114 #[.slice a xs.length cap, .int .i64 t, .func (.func 115) #[] #[]] w fun e w' => e = .returned (.tuple #[.int .i64 (rank (xs.map (·.id)) t), .bool (decide (t ∈ xs.map (·.id)))]) ∧ Frame [] w w' := by
  have S := Lib.hid h
  have U := Lib.hid hu
  clear h hu
  generalize hr : rank (xs.map (·.id)) t = r
  generalize hd : decide (t ∈ xs.map (·.id)) = d
  have HR := Lib.hid hr
  have HD := Lib.hid hd
  clear hr hd
  go_enter Try.func114, Try.ntmps114
  go_wp2_with fail
  go_loopw [9, 10] (fun u v wr => ∃ lo hi : Nat, u = .int .i64 lo ∧ v = .int .i64 hi ∧ lo ≤ hi ∧ hi ≤ xs.length ∧ Frame [] w wr ∧ Hid ((∀ i (h : i < xs.length), i < lo → xs[i].id < t) ∧ (∀ i (h : i < xs.length), hi ≤ i → t ≤ xs[i].id))) (fun u v _ => (intOf v).toNat - (intOf u).toNat)
  case atStart => exact ⟨0, xs.length, rfl, rfl, Nat.zero_le _, Nat.le_refl _, Frame.refl _ _, fun i h hi => absurd hi (Nat.not_lt_zero _), fun i h hi => by omega⟩
  case round =>
    obtain ⟨lo, hi, rfl, rfl, hlh, hin, hf, hI⟩ := hrel
    have s2 := S.out.frame0 hf
    by_cases hlt : lo < hi
    · have hm : (lo + hi) / 2 < xs.length := by omega
      have hx : xs[(lo + hi) / 2]? = some xs[(lo + hi) / 2] := by simp [hm]
      obtain ⟨b9, c9, e9, _, _, hc⟩ := s2.cell nd_len hx
      injection e9 with e9 _ e92
      subst e9 e92
      have q0 := hc 0 _ rfl
      have q1 := hc 1 _ rfl
      have q2 := hc 2 _ rfl
      simp only [Nat.add_zero] at q0
      have hcmp := fun w => cmp_node xs[(lo + hi) / 2] t w
      have hmono : ∀ i (h : i < xs.length), i ≤ (lo + hi) / 2 → xs[i].id ≤ xs[(lo + hi) / 2].id := by
        intro i h hle
        rcases Nat.lt_or_ge i ((lo + hi) / 2) with q | q
        · have := (List.pairwise_iff_getElem.1 U.out) i ((lo + hi) / 2) (by simpa using h) (by simpa using hm) q
          simp at this; omega
        · obtain rfl : i = (lo + hi) / 2 := by omega
          exact Int.le_refl _
      have hmono2 : ∀ i (h : i < xs.length), (lo + hi) / 2 ≤ i → xs[(lo + hi) / 2].id ≤ xs[i].id := by
        intro i h hle
        rcases Nat.lt_or_ge ((lo + hi) / 2) i with q | q
        · have := (List.pairwise_iff_getElem.1 U.out) ((lo + hi) / 2) i (by simpa using hm) (by simpa using h) q
          simp at this; omega
        · obtain rfl : i = (lo + hi) / 2 := by omega
          exact Int.le_refl _
      have M1 := Lib.hid hmono
      have M2 := Lib.hid hmono2
      clear hmono hmono2 hx hc s2
      have HF := Lib.hid hf
      clear hf
      generalize hxx : xs[(lo + hi) / 2] = x at *
      have HX := Lib.hid hxx
      clear hxx
      have HC := Lib.hid hcmp
      clear hcmp
      by_cases hk : x.id < t
      · have hneg : cmpI x.id t < 0 := (cmpI_neg _ _).2 hk
        go_wp2_with fail
        refine (HC.out _).mono ?_
        rintro e w3 ⟨rfl, f3⟩
        have F3 := Lib.hid f3
        clear f3
        go_wp2_with fail
        go_roundw
        case rel => exact ⟨(lo + hi) / 2 + 1, hi, by go_num, rfl, by omega, hin, HF.out.trans1 F3.out, fun i h hi' => by have := M1.out i h (by omega); omega, hI.out.2⟩
        case measure => simp [intOf]; omega
      · have hneg : ¬ cmpI x.id t < 0 := fun h => hk ((cmpI_neg _ _).1 h)
        go_wp2_with fail
        refine (HC.out _).mono ?_
        rintro e w3 ⟨rfl, f3⟩
        have F3 := Lib.hid f3
        clear f3
        go_wp2_with fail
        go_roundw
        case rel => exact ⟨lo, (lo + hi) / 2, rfl, by go_num, by omega, by omega, HF.out.trans1 F3.out, hI.out.1, fun i h hi' => by have := M2.out i h hi'; omega⟩
        case measure => simp [intOf]; omega
    · obtain rfl : lo = hi := by omega
      have hr : rank (xs.map (·.id)) t = lo := rank_of (by simpa using hin) (fun i h hi => by simpa using hI.out.1 i (by simpa using h) hi) (fun i h hi => by simpa using hI.out.2 i (by simpa using h) hi)
      have hme0 : True := trivial
      have hme := rank_mem (t := t) (r := lo) (by simpa using hin) (fun i h hi => by simpa using hI.out.1 i (by simpa using h) hi) U.out (fun i h hi => by simpa using hI.out.2 i (by simpa using h) hi)
      rw [HR.out] at hr
      rw [HD.out] at hme
      have hr2 := hr.symm
      clear hr
      subst hr2
      clear hme0
      by_cases hl : lo < xs.length
      · have hx : xs[lo]? = some xs[lo] := by simp [hl]
        obtain ⟨b9, c9, e9, _, _, hc⟩ := s2.cell nd_len hx
        injection e9 with e9 _ e92
        subst e9 e92
        have q0 := hc 0 _ rfl
        have q1 := hc 1 _ rfl
        have q2 := hc 2 _ rfl
        simp only [Nat.add_zero] at q0
        have hcmp := fun w => cmp_node xs[lo] t w
        have hget : (xs.map (·.id))[lo]? = some xs[lo].id := by simp [hl]
        rw [hget] at hme
        have HF := Lib.hid hf
        clear hx hc s2 hf hget
        generalize xs[lo] = x at *
        have HC := Lib.hid hcmp
        clear hcmp
        by_cases hk : x.id = t
        · have h0 : cmpI x.id t = 0 := (cmpI_zero _ _).2 hk
          have hd : decide (some x.id = some t) = true := by simp [hk]
          rw [hd] at hme
          subst hme
          have h1 : (cmpI x.id t == 0) = true := by simp [h0]
          clear h0 hd hk
          go_wp2_with fail
          refine (HC.out _).mono ?_
          rintro e w3 ⟨rfl, f3⟩
          have F3 := Lib.hid f3
          clear f3
          go_wp2_with fail
          go_ret2
          exact ⟨rfl, HF.out.trans1 F3.out⟩
        · have h0 : ¬ cmpI x.id t = 0 := fun h => hk ((cmpI_zero _ _).1 h)
          have hd : decide (some x.id = some t) = false := by simp [hk]
          rw [hd] at hme
          subst hme
          have h1 : (cmpI x.id t == 0) = false := by simp [h0]
          clear h0 hd hk
          go_wp2_with fail
          refine (HC.out _).mono ?_
          rintro e w3 ⟨rfl, f3⟩
          have F3 := Lib.hid f3
          clear f3
          go_wp2_with fail
          go_ret2
          exact ⟨rfl, HF.out.trans1 F3.out⟩
      · have hd : decide ((xs.map (·.id))[lo]? = some t) = false := by rw [List.getElem?_eq_none (by simp; omega)]; simp
        rw [hd] at hme
        subst hme
        have HF := Lib.hid hf
        clear hd s2 hf
        go_wp2_with fail
        go_ret2
        exact ⟨rfl, HF.out⟩
end Go.Proofs.Ytolkmapdbilolaa

namespace Go.Proofs.Ytolkmapdbilolaa
open Go.RowKit
set_option linter.unusedSimpArgs false
set_option linter.unusedVariables false

theorem Frame.setCells (w : World) (b : Nat) : ∀ (vs : List Value) (o : Nat), Frame [b] w (w.setCells b o vs) := by
  intro vs
  induction vs generalizing w with
  | nil => intro o; exact Frame.refl _ _
  | cons v r ih => intro o; exact (Frame.setCell (S := [b]) w ⟨b, o, none⟩ v (by simp)).trans1 (ih _ (o + 1))
theorem size_setCells (w : World) (b : Nat) : ∀ (vs : List Value) (o : Nat), (w.setCells b o vs).heap.size = w.heap.size := by
  intro vs
  induction vs generalizing w with
  | nil => intro o; rfl
  | cons v r ih => intro o; rw [World.setCells, ih]; simp

/-- What a block holds behind a run of writes. -/
def over (cs : List Value) (o : Nat) (vs : List Value) : List Value := cs.take o ++ vs ++ cs.drop (o + vs.length)
theorem over_len {cs vs : List Value} {o : Nat} (h : o + vs.length ≤ cs.length) : (over cs o vs).length = cs.length := by simp [over]; omega
theorem set_toList (cs : Array Value) (o : Nat) (v : Value) (h : o < cs.size) : (cs.setIfInBounds o v).toList = over cs.toList o [v] := by
  rw [Array.toList_setIfInBounds]
  simp only [over, List.length_singleton]
  rw [List.set_eq_take_append_cons_drop, if_pos (by simpa using h)]
  simp
theorem over_cons (cs : List Value) (o : Nat) (v : Value) (r : List Value) (h : o + (r.length + 1) ≤ cs.length) : over (over cs o [v]) (o + 1) r = over cs o (v :: r) := by
  simp only [over, List.length_cons, List.length_nil, Nat.zero_add]
  have h1 : (cs.take o ++ [v] ++ cs.drop (o + 1)).take (o + 1) = cs.take o ++ [v] := by
    rw [List.take_append_of_le_length (by simp; omega)]
    rw [List.take_of_length_le (by simp; omega)]
  have h2 : (cs.take o ++ [v] ++ cs.drop (o + 1)).drop (o + 1 + r.length) = cs.drop (o + (r.length + 1)) := by
    rw [List.drop_append, List.drop_of_length_le (by simp; omega), List.drop_drop]
    simp
    congr 1
    omega
  rw [h1, h2]; simp
theorem Blk.setCells {b T : Nat} : ∀ {vs : List Value} {o : Nat} {cs : Array Value} {w : World}, Blk w b T cs → o + vs.length ≤ cs.size → Blk (w.setCells b o vs) b T (over cs.toList o vs).toArray := by
  intro vs
  induction vs with
  | nil => intro o cs w h _; simpa [over, World.setCells] using h
  | cons v r ih =>
    intro o cs w h hb
    simp only [List.length_cons] at hb
    have h1 := ih (o := o + 1) (h.set o v) (by simp; omega)
    rw [set_toList _ _ _ (by omega), over_cons _ _ _ _ (by simpa using hb)] at h1
    exact h1

theorem run_clear_k {P : Program} (w : World) (t e ty : TypeId) (z : Value) (zs : List Value) (ht : P.underlying t = some (.slice e)) (hv : ∀ w, (zeroValue e).run P w = .ok z w) (b o n c : Nat) (hn : 0 < n)
    (hz : (Builtin.zeroCells z.cells n).toList = zs) (h1 : ∀ v ∈ zs, v.oneCell' = true) (hc : ∀ j, j < zs.length → (w.cell? ⟨b, o + j, none⟩).isSome = true) (hf : ∀ j, j < zs.length → w.frozen? ⟨b, o + j, none⟩ = false) :
    (Builtin.clear_ #[t] ty #[.slice (some ⟨b, o, none⟩) n c]).run P w = .ok (.tuple #[]) (w.setCells b o zs) := by
  have hst := run_storeCells_cells (P := P) b o zs 0 w (by simpa using hc) (by simpa using hf) h1
  simp only [Nat.add_zero] at hst
  obtain ⟨m, rfl⟩ : ∃ m, n = m + 1 := ⟨n - 1, by omega⟩
  simp [Builtin.clear_, run_underlying ht, hv, hz, hst]
theorem run_copy_k {P : Program} (w : World) (dT sT ty elem : TypeId) (b o dLen dCap : Nat) (a : Addr) (sLen sCap m sz : Nat) (cs : List Value)
    (hu : P.underlying dT = some (.slice elem)) (hs : (P.info? elem).map (·.size) = some sz) (hm : m = Nat.min sLen dLen) (hn : cs.length = m * sz)
    (hsrc : ∀ j v, cs[j]? = some v → w.cell? (a.add j) = some v) (hc : ∀ j, j < cs.length → (w.cell? ⟨b, o + j, none⟩).isSome = true) (hf : ∀ j, j < cs.length → w.frozen? ⟨b, o + j, none⟩ = false) (h1 : ∀ v ∈ cs, v.oneCell' = true) :
    (Builtin.copy_ #[dT, sT] ty #[.slice (some ⟨b, o, none⟩) dLen dCap, .slice (some a) sLen sCap]).run P w = .ok (goInt m) (w.setCells b o cs) := by
  have hl := run_firstCells_some (P := P) w sz m a sLen sCap cs hn hsrc
  have hst := run_storeCells_cells (P := P) b o cs 0 w (by simpa using hc) (by simpa using hf) h1
  cases hq : P.info? elem with
  | none => simp [hq] at hs
  | some i =>
    have hi : i.size = sz := by simpa [hq] using hs
    simp [Builtin.copy_, run_underlying hu, Builtin.lenOf, sizeOf, typeInfo, hq, hi, ← hm, hl, hst]
/-- 'copy', where its run is known. -/
theorem wpList_copy_run {P : Program} (w : World) {ops : Array Oper} {rest : List Oper} {o : Oper} {a : Act} {Q : Exit → Act → World → Prop} (hgd : o.guard = none) (d s : Operand) (t t' : TypeId)
    (ho : o.op = .call { callee := .builtin .copy, args := #[d, s], argTypes := #[t, t'] }) (v u : Value) (hd : a.eval d = v) (hs : a.eval s = u) {v' : Value} {w' : World}
    (hr : (Builtin.copy_ #[t, t'] o.type #[v, u]).run P w = .ok v' w') (h : wpList P ops Q rest (a.put o.dst v') w') : wpList P ops Q (o :: rest) a w :=
  wpList_plain hgd fun K hK => by
    unfold Oper.wp execOp
    simp only [ho, resolve, invoke, builtin, Sem.run_bind, Sem.run_pure, Result.andThen_ok, List.map_toArray, List.map_cons, List.map_nil, hd, hs, hr]
    exact hK _ _ h
theorem step_copy_run {P : Program} {ops : Array Oper} {o : Oper} {a : Act} {w : World} {K : Act → World → Prop} {Q : Exit → Act → World → Prop} {E : Prop}
    (hg : o.guard = none) (d x : Operand) (dT sT : TypeId) (hop : o.op = Op.call { callee := Callee.builtin Builtin.copy, args := #[d, x], argTypes := #[dT, sT] })
    (v u : Value) (hd : a.eval d = v) (hx : a.eval x = u) {v' : Value} {w' : World} (hr : (Builtin.copy_ #[dT, sT] o.type #[v, u]).run P w = .ok v' w') (hK : K (a.put o.dst v') w') :
    if Region.wanted o (yielded ops a.tmps) = true then Oper.wp P o a w K Q else E := by
  have hw : Region.wanted o (yielded ops a.tmps) = true := by simp [Region.wanted, hg]
  rw [if_pos hw]
  unfold Oper.wp
  simp [execOp, hop, resolve, invoke, builtin, hd, hx, hr, Result.andThen]
  exact hK
theorem Blk.isSome {w : World} {b T : Nat} {cs : Array Value} (h : Blk w b T cs) {i : Nat} (hi : i < cs.size) : (w.cell? ⟨b, i, none⟩).isSome = true := by rw [h.cell i]; simp [hi]
end Go.Proofs.Ytolkmapdbilolaa

