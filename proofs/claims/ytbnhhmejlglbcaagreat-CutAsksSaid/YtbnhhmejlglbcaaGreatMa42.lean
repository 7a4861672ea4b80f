/- Tokens that are all needed: pure. The reference's LeastTokens. (printed by gen_rleast15.py) -/
import Derived.Test.YtbnhhmejlglbcaaGreatMa31
import Derived.Test.YtbnhhmejlglbcaaGreatMa38
import Derived.Test.YtbnhhmejlglbcaaGreatMa37
import Derived.Test.YtbnhhmejlglbcaaGreatMa41
namespace Go.Proofs.YtbnhhmejlglbcaaGreat
open Go.RowKit
set_option linter.unusedSimpArgs false
set_option linter.unusedVariables false

theorem truth_mono {l : List Gt} (hI : Inv l) {root : Nat} {ts us : List Int} (h : ∀ t ∈ ts, t ∈ us) (ht : truth l root ts = true) : truth l root us = true :=
  worthB_mono hI (fun t hh => by simp at hh ⊢; exact h t hh) root ht
theorem truth_same {l : List Gt} {root : Nat} {ts us : List Int} (h : ∀ t, t ∈ ts ↔ t ∈ us) : truth l root ts = truth l root us := by
  unfold truth; congr 1; funext t; simp [h t]
theorem mem_butI {n x : Int} {xs : List Int} : x ∈ butI n xs ↔ x ∈ xs ∧ x ≠ n := by simp [butI, keepI]
structure LInv (l : List Gt) (root : Nat) (S : List Int) (k : Nat) (acc : List Int) : Prop where
  yes : truth l root acc = true
  sub : acc.Sublist S
  need : ∀ t ∈ S.take k, t ∈ acc → truth l root (butI t acc) = false
theorem linv_fold {l : List Gt} (hI : Inv l) {root : Nat} {S : List Int} (h : truth l root S = true) : ∀ k, k ≤ S.length → LInv l root S k ((S.take k).foldl (lessC l root) S)
  | 0, _ => ⟨h, List.Sublist.refl _, by simp⟩
  | k + 1, hk => by
    have ih := linv_fold hI h k (by omega)
    have hj : S[k]? = some S[k] := List.getElem?_eq_getElem (by omega)
    rw [lessC_next hj]
    generalize (S.take k).foldl (lessC l root) S = acc at *
    generalize S[k] = x at *
    unfold lessC
    by_cases ht : truth l root (butI x acc) = true
    · rw [if_pos ht]
      refine ⟨ht, List.filter_sublist.trans ih.sub, fun t hm ha => ?_⟩
      have ha' := mem_butI.mp ha
      rw [take_one hj, List.mem_append] at hm
      rcases hm with hm | hm
      · have hn := ih.need t hm ha'.1
        cases hb : truth l root (butI t (butI x acc)) with
        | false => rfl
        | true =>
          have := truth_mono hI (us := butI t acc) (fun z hz => by
            have h1 := mem_butI.mp hz
            exact mem_butI.mpr ⟨(mem_butI.mp h1.1).1, h1.2⟩) hb
          rw [hn] at this; cases this
      · simp at hm; exact absurd hm ha'.2
    · rw [if_neg ht]
      refine ⟨ih.yes, ih.sub, fun t hm ha => ?_⟩
      rw [take_one hj, List.mem_append] at hm
      rcases hm with hm | hm
      · exact ih.need t hm ha
      · simp at hm; subst hm; simpa using ht
/-- What the law asks. -/
structure LeastOk (l : List Gt) (root : Nat) (ts A : List Int) : Prop where
  yes : truth l root A = true
  sub : ∀ t ∈ A, t ∈ ts
  up : Up A
  need : ∀ t ∈ A, truth l root (butI t A) = false
  len : A.length ≤ ts.length
theorem leastV_no {l : List Gt} {root : Nat} {ts : List Int} (h : truth l root ts = false) : leastV l root ts = [] := by
  unfold leastV
  rw [truth_same (us := ts) (fun t => srtI_mem ts t), h]; rfl
theorem leastV_ok {l : List Gt} (hI : Inv l) {root : Nat} {ts : List Int} (h : truth l root ts = true) : LeastOk l root ts (leastV l root ts) := by
  have hS : truth l root (srtI ts) = true := by rw [truth_same (us := ts) (fun t => srtI_mem ts t)]; exact h
  unfold leastV
  rw [if_pos hS]
  have hu := srtI_up ts
  have hm := srtI_mem ts
  have hlen : (srtI ts).length ≤ ts.length := by
    have := compact_len5 (ts.mergeSort fun x y => decide (x ≤ y))
    rw [List.length_mergeSort, srtI_compact] at this
    exact this
  have hf0 := linv_fold hI hS (srtI ts).length (Nat.le_refl _)
  have e : ((srtI ts).take (srtI ts).length) = srtI ts := List.take_length
  have hf : LInv l root (srtI ts) (srtI ts).length ((srtI ts).foldl (lessC l root) (srtI ts)) := by rw [e] at hf0; exact hf0
  exact ⟨hf.yes, fun t ht => (hm t).mp (hf.sub.subset ht), hu.sublist hf.sub, fun t ht => hf.need t (by rw [List.take_length]; exact hf.sub.subset ht) ht, Nat.le_trans hf.sub.length_le hlen⟩
/-- Without the i-th one. -/
theorem but_at {A : List Int} (hu : Up A) {i : Nat} {x : Int} (hx : A[i]? = some x) : butI x A = A.take i ++ A.drop (i + 1) := by
  obtain ⟨hi, rfl⟩ := List.getElem?_eq_some_iff.mp hx
  have e : A = A.take i ++ A[i] :: A.drop (i + 1) := by rw [List.getElem_cons_drop, List.take_append_drop]
  have h1 : ∀ y ∈ A.take i, y ≠ A[i] := fun y hy => by
    obtain ⟨j, hj, rfl⟩ := List.mem_iff_getElem.mp hy
    rw [List.length_take] at hj
    rw [List.getElem_take]
    have := List.pairwise_iff_getElem.mp hu j i (by omega) hi (by omega)
    omega
  have h2 : ∀ y ∈ A.drop (i + 1), y ≠ A[i] := fun y hy => by
    obtain ⟨j, hj, rfl⟩ := List.mem_iff_getElem.mp hy
    rw [List.length_drop] at hj
    rw [List.getElem_drop]
    have := List.pairwise_iff_getElem.mp hu i (i + 1 + j) hi (by omega) (by omega)
    omega
  generalize A[i] = x at *
  rw [show butI x A = butI x (A.take i ++ x :: A.drop (i + 1)) from congrArg _ e]
  unfold butI keepI
  rw [List.filter_append, List.filter_cons]
  have f1 : (A.take i).filter (fun e => !e == x) = A.take i := List.filter_eq_self.mpr fun y hy => by simpa using h1 y hy
  have f2 : (A.drop (i + 1)).filter (fun e => !e == x) = A.drop (i + 1) := List.filter_eq_self.mpr fun y hy => by simpa using h2 y hy
  rw [f1, f2]
  simp
theorem least_empty {l : List Gt} (hI : Inv l) {root : Nat} {ts A : List Int} (h : LeastOk l root ts A) : truth l root [] = decide (A.length = 0) := by
  cases A with
  | nil => simpa using h.yes
  | cons x A =>
    have hn := h.need x (by simp)
    simp
    cases hb : truth l root [] with
    | false => rfl
    | true => have := truth_mono hI (us := butI x (x :: A)) (by simp) hb; rw [hn] at this; cases this
end Go.Proofs.YtbnhhmejlglbcaaGreat

namespace Go.Proofs.YtbnhhmejlglbcaaGreat
open Go.RowKit
set_option linter.unusedSimpArgs false
set_option linter.unusedVariables false

theorem rfT15 {w : World} {a : Option Addr} {xs : List Int} (h : RdI w a xs) : RF (fun _ => True) w 1 encI a xs := fun k x hx => by
  obtain ⟨hk, rfl⟩ := List.getElem?_eq_some_iff.1 hx
  obtain ⟨b, off, h1, h2⟩ := h.at hk
  refine ⟨b, off, h1, trivial, fun j u hu => ?_⟩
  match j, hu with
  | 0, hu =>
    have : u = .int .i64 xs[k] := by simpa [encI] using hu.symm
    rw [this, Nat.mul_one, Nat.add_zero]
    exact h2
  | j + 1, hu => simp [encI] at hu
/-- A slice's length. -/
def lenOf : Value → Nat
  | .slice _ n _ => n
  | _ => 0
/-- What the loop holds: of S the first k are looked at; A is left, its first i are looked at. -/
structure LTv (l : List Gt) (root : Nat) (S : List Int) (k : Nat) (A : List Int) (i : Nat) : Prop where
  val : A = (S.take k).foldl (lessC l root) S
  at_ : i ≤ A.length
  rest : A.drop i = S.drop k
  up : Up A
theorem LTv.start {l : List Gt} {root : Nat} {S : List Int} (h : Up S) : LTv l root S 0 S 0 := ⟨by simp, Nat.zero_le _, by simp, h⟩
theorem LTv.more {l : List Gt} {root : Nat} {S A : List Int} {k i : Nat} (h : LTv l root S k A i) (hi : i < A.length) : ∃ x, S[k]? = some x ∧ A[i]? = some x ∧ butI x A = A.take i ++ A.drop (i + 1) := by
  have e := congrArg (fun z : List Int => z[0]?) h.rest
  simp only [List.getElem?_drop, Nat.add_zero] at e
  have hx : A[i]? = some A[i] := List.getElem?_eq_getElem hi
  exact ⟨A[i], by rw [← e]; exact hx, hx, but_at h.up hx⟩
theorem LTv.yes {l : List Gt} {root : Nat} {S A : List Int} {k i : Nat} (h : LTv l root S k A i) (hi : i < A.length) (ht : truth l root (A.take i ++ A.drop (i + 1)) = true) : LTv l root S (k + 1) (A.take i ++ A.drop (i + 1)) i := by
  obtain ⟨x, h1, h2, h3⟩ := h.more hi
  refine ⟨?_, ?_, ?_, ?_⟩
  · rw [lessC_next h1, ← h.val]
    unfold lessC
    rw [h3, if_pos ht]
  · rw [List.length_append, List.length_take]; omega
  · rw [List.drop_append_of_le_length (by rw [List.length_take]; omega), List.drop_of_length_le (by rw [List.length_take]; omega), List.nil_append]
    have := congrArg (List.drop 1) h.rest
    simpa [List.drop_drop, Nat.add_comm] using this
  · rw [← h3]
    exact h.up.sublist (List.filter_sublist)
theorem LTv.no {l : List Gt} {root : Nat} {S A : List Int} {k i : Nat} (h : LTv l root S k A i) (hi : i < A.length) (ht : truth l root (A.take i ++ A.drop (i + 1)) = false) : LTv l root S (k + 1) A (i + 1) := by
  obtain ⟨x, h1, h2, h3⟩ := h.more hi
  refine ⟨?_, by omega, ?_, h.up⟩
  · rw [lessC_next h1, ← h.val]
    unfold lessC
    rw [h3, if_neg (by rw [ht]; simp)]
  · have := congrArg (List.drop 1) h.rest
    simpa [List.drop_drop, Nat.add_comm] using this
theorem LTv.done {l : List Gt} {root : Nat} {S A : List Int} {k i : Nat} (h : LTv l root S k A i) (hi : ¬ i < A.length) : A = S.foldl (lessC l root) S := by
  have e := congrArg List.length h.rest
  rw [List.length_drop, List.length_drop] at e
  have hk : S.length ≤ k := by have := h.at_; omega
  rw [h.val, List.take_of_length_le hk]

set_option maxHeartbeats 4000000 in
set_option maxRecDepth 100000 in
theorem rleastT_any (pb : Nat) (F : List Nat) (l : List Gt) (bud : Int) (root : Nat) (w : World) (h : RSt w pb F l bud) (hI : Inv l) (hK : Knd l) (hr : root < l.length) (hlen : l.length ≤ 100000)
    (ta : Option Addr) (tc : Nat) (ts : List Int) (ht : RdI w ta ts) (htl : ts.length ≤ 1000) :
    Calls Tryz.prog 42 #[.pointer (some ⟨pb, 0, none⟩), .int .i64 root, .slice ta ts.length tc] w (RowEndI (leastV l root ts) w) := by
  have AS := Lib.hid (fun w' (f : Frame [] w w') => rsortI_any (fun _ => True) ta tc ts w' (rfT15 (ht.frame f)) (by omega))
  have TR := Lib.hid (fun w' (f : Frame [] w w') a c xs (hx : RdI w' a xs) (hl : xs.length ≤ 1000000) => rtruth_any pb F l bud root w' (h.frame0 f) hI hK hr hlen a c xs hx hl)
  have hSl : (srtI ts).length ≤ 1000 := by
    have := compact_len5 (ts.mergeSort fun x y => decide (x ≤ y))
    rw [List.length_mergeSort] at this
    rw [← srtI_compact ts] at *
    omega
  have HV : Hid (leastV l root ts = if truth l root (srtI ts) = true then (srtI ts).foldl (lessC l root) (srtI ts) else []) := rfl
  have US := Lib.hid (srtI_up ts)
  generalize srtI ts = S at *
  clear h ht
  go_enter Tryz.func42, Tryz.ntmps42
  go_wp2_with fail
  refine (AS.out _ (Frame.refl _ _)).mono ?_
  rintro e w1 ⟨a1, c1, G1, rfl, s1, f1, -⟩
  have R1 := Lib.hid (And.intro (sl_rdI s1) f1)
  have C1 := sl_cap s1
  have T1 := Lib.hid (TR.out w1 f1 a1 c1 S (sl_rdI s1) (by omega))
  clear s1 f1 AS
  generalize hb : truth l root S = b at *
  have HB := Lib.hid hb
  clear hb
  go_wp2_with fail
  refine T1.out.mono ?_
  rintro e w2 ⟨rfl, f2⟩
  have R2 := Lib.hid (And.intro (R1.out.1.frame f2) (R1.out.2.trans1 f2))
  clear f2 R1 T1
  cases b with
  | false =>
    go_wp2_with fail
    go_ret
    exact ⟨none, 0, by rw [HV.out]; rfl, by rw [HV.out]; exact .inl rfl, R2.out.2, by rw [HV.out]; simp, by unfold maxLen; omega⟩
  | true =>
    go_wp2_with fail
    go_loopw [7, 8] (fun u v wr => ∃ (k i n c : Nat) (a : Option Addr) (A : List Int), i ≤ n ∧ n ≤ 1000 ∧ n ≤ c ∧ c ≤ maxLen ∧ u = .slice a n c ∧ v = .int .i64 i ∧ Hid (A.length = n) ∧ Hid (LTv l root S k A i ∧ RdI wr a A ∧ Frame [] w wr)) (fun u v _ => (lenOf u - (intOf v).toNat : Nat))
    case atStart => exact ⟨0, 0, S.length, c1, a1, S, Nat.zero_le _, hSl, C1.1, C1.2, rfl, rfl, Lib.hid rfl, Lib.hid ⟨LTv.start US.out, R2.out⟩⟩
    case round =>
      rename World => wr
      clear R2 C1
      obtain ⟨k, i, n, c, a, A, hin, hn, hnc, hc, rfl, rfl, HLN, hR⟩ := hrel
      have hc9 : c ≤ 9223372036854775807 := by unfold maxLen at hc; omega
      by_cases hlt : i < n
      · have hltI : decide ((i : Int) < n) = true := decide_eq_true (by omega)
        obtain ⟨x, hx1, hx2, hbut⟩ := hR.out.1.more (by rw [HLN.out]; exact hlt)
        obtain ⟨lb, lo, rfl⟩ : ∃ b off, a = some ⟨b, off, none⟩ := by
          obtain ⟨b, off, h1, h2⟩ := hR.out.2.1.at (k := i) (by rw [HLN.out]; exact hlt)
          exact ⟨b, off, h1⟩
        have RL := Lib.hid hR.out.2.1
        have e1 : IntKind.i64.wrap ((i : Int) + 1) = (i : Int) + 1 := IntWalk.i64_in _ (by omega)
        obtain ⟨DA, hA, rfd⟩ : ∃ DA : Addr, (if c = i + 1 then some (⟨lb, lo, none⟩ : Addr) else some ⟨lb, lo + (i + 1), none⟩) = some DA ∧ Hid (∀ w', Frame [] wr w' → RF (fun _ => True) w' 1 encI (some DA) (A.drop (i + 1))) := by
          by_cases hlc : c = i + 1
          · refine ⟨⟨lb, lo, none⟩, by rw [if_pos hlc], fun w' _ k z hz => ?_⟩
            have := (List.getElem?_eq_some_iff.mp hz).1
            rw [List.length_drop, HLN.out] at this
            omega
          · refine ⟨⟨lb, lo + (i + 1), none⟩, by rw [if_neg hlc], fun w' f k z hz => ?_⟩
            rw [List.getElem?_drop] at hz
            obtain ⟨b, off, h1, h2, h3⟩ := (rfT15 (RL.out.frame f)) _ _ hz
            simp at h1
            obtain ⟨rfl, rfl⟩ := h1
            exact ⟨lb, lo + (i + 1), rfl, trivial, fun j u hu => by have := h3 j u hu; rw [show lo + (i + 1) + k * 1 + j = lo + (i + 1 + k) * 1 + j by omega]; exact this⟩
        have rft : Hid (∀ w', Frame [] wr w' → RF (fun _ => True) w' 1 encI (some ⟨lb, lo, none⟩) (A.take i)) := fun w' f k z hz => by
          obtain ⟨hk, hz2⟩ := List.getElem?_eq_some_iff.mp hz
          rw [List.getElem_take] at hz2
          rw [List.length_take] at hk
          exact (rfT15 (RL.out.frame f)) k z (by rw [List.getElem?_eq_getElem (by omega), hz2])
        clear hx1 hx2 hbut
        go_wp2_with fail
        refine wp_region_held_drew (S := fun w' => Frame [] wr w') (by kernel_rfl) (Frame.drew _ _) ?_
        intro hS
        refine wpAnyH_take (i := 1) (oi := ⟨some 22, _, _, _, _, _⟩) (v := ?_) rfl (by kernel_rfl) (by kernel_rfl) (by kernel_rfl) (fun _ _ _ h => h) (Or.inl ⟨by rfl, ?_⟩) hS ?_
        rotate_left
        · intro w hSw
          go_simp <;> with_reducible rfl
        try simp only [Act.put, List.setIfInBounds_toArray, List.set_cons_zero, List.set_cons_succ]
        refine wpAnyH_take (i := 2) (oi := ⟨some 23, _, _, _, _, _⟩) (v := ?_) rfl (by kernel_rfl) (by kernel_rfl) (by kernel_rfl) (fun _ _ _ h => h) (Or.inl ⟨by rfl, ?_⟩) hS ?_
        rotate_left
        · intro w hSw
          go_simp <;> with_reducible rfl
        try simp only [Act.put, List.setIfInBounds_toArray, List.set_cons_zero, List.set_cons_succ]
        refine wpAnyH_take (i := 3) (oi := ⟨some 24, _, _, _, _, _⟩) (v := ?_) rfl (by kernel_rfl) (by kernel_rfl) (by kernel_rfl) (fun _ _ _ h => h) (Or.inl ⟨by rfl, ?_⟩) hS ?_
        rotate_left
        · intro w hSw
          go_simp
          rw [if_pos (show i ≤ c by omega)]
        try simp only [Act.put, List.setIfInBounds_toArray, List.set_cons_zero, List.set_cons_succ]
        refine wpAnyH_take (i := 5) (oi := ⟨some 26, _, _, _, _, _⟩) (v := ?_) rfl (by kernel_rfl) (by kernel_rfl) (by kernel_rfl) (fun _ _ _ h => h) (Or.inl ⟨by rfl, ?_⟩) hS ?_
        rotate_left
        · intro w hSw
          go_simp <;> with_reducible rfl
        try simp only [Act.put, List.setIfInBounds_toArray, List.set_cons_zero, List.set_cons_succ]
        refine wpAnyH_take (i := 6) (oi := ⟨some 27, _, _, _, _, _⟩) (v := ?_) rfl (by kernel_rfl) (by kernel_rfl) (by kernel_rfl) (fun _ _ _ h => h) (Or.inl ⟨by rfl, ?_⟩) hS ?_
        rotate_left
        · intro w hSw
          go_simp <;> with_reducible rfl
        try simp only [Act.put, List.setIfInBounds_toArray, List.set_cons_zero, List.set_cons_succ]
        refine wpAnyH_take (i := 7) (oi := ⟨some 28, _, _, _, _, _⟩) (v := ?_) rfl (by kernel_rfl) (by kernel_rfl) (by kernel_rfl) (fun _ _ _ h => h) (Or.inl ⟨by rfl, ?_⟩) hS ?_
        rotate_left
        · intro w hSw
          go_simp <;> with_reducible rfl
        try simp only [Act.put, List.setIfInBounds_toArray, List.set_cons_zero, List.set_cons_succ]
        refine wpAnyH_take (i := 8) (oi := ⟨some 29, _, _, _, _, _⟩) (v := ?_) rfl (by kernel_rfl) (by kernel_rfl) (by kernel_rfl) (fun _ _ _ h => h) (Or.inl ⟨by rfl, ?_⟩) hS ?_
        rotate_left
        · intro w hSw
          go_simp
          rw [if_pos (show 0 ≤ ((i : Nat) : Int) + 1 ∧ ((i : Nat) : Int) + 1 ≤ (n : Int) by omega)]
        try simp only [Act.put, List.setIfInBounds_toArray, List.set_cons_zero, List.set_cons_succ]
        as_aux_lemma =>
          refine wpAnyH_ready (rs := [0]) (by kernel_rfl) (by simp) ?_
          refine AllReadyH.cons (o := ⟨some 21, _, _, _, _, _⟩) rfl (fun K hK => ?_) AllReadyH.nil
          go_simp
          refine hK.out _ _ (show Frame [] wr _ from by (repeat first | assumption | exact Frame.refl _ _ | refine Frame.trans1 ?_ (Frame.alloc _ _ _) | refine Frame.trans1 ?_ (Frame.drew _ _) | refine Frame.trans1 ?_ (Frame.drewN _ _ _))) (fun hS => ?_)
          clear hK K
          try simp only [Act.put, List.setIfInBounds_toArray, List.set_cons_zero, List.set_cons_succ]
          have sl0 : Sl (wr.alloc (.cells #[] 3)).drew 3 1 encI (.slice (some ⟨wr.heap.size, 0, none⟩) 0 0) [] [wr.heap.size] := (Sl.of_blk (xs := ([] : List Int)) (cap := 0) (Blk.new wr 3 #[]) (Nat.le_refl _) (by unfold maxLen; omega) rfl rfl).frame0 (Frame.drew _ _)
          have SL0 := Lib.hid sl0
          clear sl0
          refine wpAnyH_ready (rs := [4]) (by kernel_rfl) (by simp) ?_
          refine AllReadyH.cons (o := ⟨some 25, _, _, _, _, _⟩) rfl (fun K hK => ?_) AllReadyH.nil
          refine step_append_rf (by rfl) (.tmp 21) (.tmp 24) 50 (by rfl) 3 1 8 _ encI Tryz.underlying50 infoInt rfl (by omega) (.slice (some ⟨wr.heap.size, 0, none⟩) 0 0) [] 0 rfl [wr.heap.size] (by rfl) SL0.out (fun _ => True) _ i _ (A.take i) (by rfl) (rft.out _ (by (repeat first | assumption | exact Frame.refl _ _ | refine Frame.trans1 ?_ (Frame.alloc _ _ _) | refine Frame.trans1 ?_ (Frame.drew _ _) | refine Frame.trans1 ?_ (Frame.drewN _ _ _)))) (by rw [List.length_take]; have := HLN.out; omega) encI_len encI_one i (by omega) (by omega) (by omega) ?_
          intro a5 cap5 w5x G5 sl5 f5 hG5
          have hF5 : Frame [] wr w5x := (show Frame [] wr _ from by (repeat first | assumption | exact Frame.refl _ _ | refine Frame.trans1 ?_ (Frame.alloc _ _ _) | refine Frame.trans1 ?_ (Frame.drew _ _) | refine Frame.trans1 ?_ (Frame.drewN _ _ _))).trans f5 (fun x hx => .inr (by simp at hx; omega))
          have E5 := Lib.hid (And.intro sl5 (And.intro hF5 hG5))
          clear sl5 f5 hG5
          refine hK.out _ _ (hF5) (fun hS => ?_)
          clear hK K
          try simp only [Act.put, List.setIfInBounds_toArray, List.set_cons_zero, List.set_cons_succ]
          refine wpAnyH_ready (rs := [9]) (by kernel_rfl) (by simp) ?_
          refine AllReadyH.cons (o := ⟨some 30, _, _, _, _, _⟩) rfl (fun K hK => ?_) AllReadyH.nil
          refine step_append_rf (by rfl) (.tmp 25) (.tmp 29) 50 (by rfl) 3 1 8 _ encI Tryz.underlying50 infoInt rfl (by omega) (.slice a5 i cap5) ([] ++ A.take i) i (by rw [List.nil_append, List.length_take]; have := HLN.out; omega) G5 (by rfl) E5.out.1 (fun _ => True) _ (n - (i + 1)) _ (A.drop (i + 1)) (by rfl) (rfd.out _ E5.out.2.1) (by rw [List.length_drop, HLN.out]) encI_len encI_one (n - 1) (by omega) (by omega) (by omega) ?_
          intro a6 cap6 w6x G6 sl6 f6 hG6
          have hF6 : Frame [] wr w6x := E5.out.2.1.trans f6 (fun x hx => by rcases E5.out.2.2 x hx with h | h; exact .inr (by simp at h; omega); exact .inr (Nat.le_trans (show Frame [] wr _ from by (repeat first | assumption | exact Frame.refl _ _ | refine Frame.trans1 ?_ (Frame.alloc _ _ _) | refine Frame.trans1 ?_ (Frame.drew _ _) | refine Frame.trans1 ?_ (Frame.drewN _ _ _))).size h))
          have rl6 := sl_rdI sl6
          rw [List.nil_append] at rl6
          have h61 := sl_cap sl6
          have R6 := Lib.hid (And.intro rl6 hF6)
          clear sl6 f6 hG6 rl6
          refine hK.out _ _ (hF6) (fun hS => ?_)
          clear hK K
          try simp only [Act.put, List.setIfInBounds_toArray, List.set_cons_zero, List.set_cons_succ]
          refine wpAnyH_take (i := 10) (oi := ⟨some 9, _, _, _, _, _⟩) (v := ?_) rfl (by kernel_rfl) (by kernel_rfl) (by kernel_rfl) (fun _ _ _ h => h) (Or.inl ⟨by rfl, ?_⟩) hS ?_
          rotate_left
          · intro w hSw
            go_simp <;> with_reducible rfl
          try simp only [Act.put, List.setIfInBounds_toArray, List.set_cons_zero, List.set_cons_succ]
          refine wpAnyH_done (by kernel_rfl) ?_ _
          clear hF6 hF5 hS SL0 E5 rft rfd hA
          have hl6 : (A.take i ++ A.drop (i + 1)).length = n - 1 := by rw [List.length_append, List.length_take, List.length_drop, HLN.out]; omega
          have T6 := Lib.hid (TR.out w6x (hR.out.2.2.trans1 R6.out.2) a6 cap6 _ R6.out.1 (by rw [hl6]; omega))
          rw [hl6] at T6
          have Y := Lib.hid (hR.out.1.yes (by rw [HLN.out]; exact hlt))
          have N := Lib.hid (hR.out.1.no (by rw [HLN.out]; exact hlt))
          have HL6 := Lib.hid hl6
          clear hl6
          generalize A.take i ++ A.drop (i + 1) = B at *
          generalize htb : truth l root B = tb at *
          have HTB := Lib.hid htb
          clear htb
          go_wp2_with fail
          refine T6.out.mono ?_
          rintro e w7x ⟨rfl, f7⟩
          have F7 := Lib.hid (And.intro (hR.out.2.2.trans1 (R6.out.2.trans1 f7)) (And.intro (R6.out.1.frame f7) (hR.out.2.1.frame (R6.out.2.trans1 f7))))
          clear f7 T6
          cases tb with
          | true =>
            go_wp2_with fail
            go_roundw
            case rel => exact ⟨k + 1, i, n - 1, cap6, a6, B, by omega, by omega, h61.1, h61.2, rfl, rfl, Lib.hid HL6.out, Lib.hid ⟨Y.out trivial, F7.out.2.1, F7.out.1⟩⟩
            case measure => first | (simp [intOf, lenOf]; done) | (simp [intOf, lenOf]; omega)
          | false =>
            go_wp2_with fail
            go_roundw
            case rel => exact ⟨k + 1, i + 1, n, c, _, A, by omega, hn, hnc, hc, rfl, by first | rfl | go_num, HLN, Lib.hid ⟨N.out trivial, F7.out.2.2, F7.out.1⟩⟩
            case measure => first | (simp [intOf, lenOf]; done) | (simp [intOf, lenOf]; omega)
      · have hltI : decide ((i : Int) < n) = false := decide_eq_false (by omega)
        have HE : Hid (A = leastV l root ts) := by
          show A = _
          rw [HV.out, if_pos trivial]
          exact hR.out.1.done (by rw [HLN.out]; exact hlt)
        go_wp2_with fail
        go_ret
        exact ⟨a, c, by rw [← HE.out, HLN.out]; rfl, by rw [← HE.out]; exact hR.out.2.1, hR.out.2.2, by rw [← HE.out, HLN.out]; exact hnc, hc⟩
end Go.Proofs.YtbnhhmejlglbcaaGreat

