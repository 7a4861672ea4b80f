/- slices.Compact of a row in order: each element once, in order. Texts sorted and compacted: what SortTexts makes. slices.Sort, slices.Compact at texts, on a row of one's own. The index: Labels. -/
import Derived.Test.YtjcajidgaejhoaaGreatMi01
import Derived.Lib.SlicesCompact
import Derived.Test.YtjcajidgaejhoaaGreatMi32
import Derived.Test.YtjcajidgaejhoaaGreatShelf
import Derived.Test.YtjcajidgaejhoaaGreatMi40
namespace Go.Proofs.YtjcajidgaejhoaaGreat
open Go.RowKit
set_option linter.unusedSimpArgs false
set_option linter.unusedVariables false

section
variable {α : Type} [Inhabited α] [DecidableEq α]
theorem compactUpTo_mem (d : Array α) (m : Nat) (x : α) : x ∈ Lib.compactUpTo d m ↔ ∃ i, i < m ∧ d[i]! = x := by
  constructor
  · intro h
    unfold Lib.compactUpTo at h
    obtain ⟨i, hi, rfl⟩ := List.mem_map.1 h
    exact ⟨i, List.mem_range.1 (List.mem_filter.1 hi).1, rfl⟩
  · rintro ⟨i, hi, rfl⟩
    unfold Lib.compactUpTo
    induction i with
    | zero => exact List.mem_map.2 ⟨0, List.mem_filter.2 ⟨List.mem_range.2 hi, by simp [Lib.keeps]⟩, rfl⟩
    | succ i ih =>
      by_cases h : d[i + 1]! = d[i]!
      · rw [h]; exact ih (by omega)
      · exact List.mem_map.2 ⟨i + 1, List.mem_filter.2 ⟨List.mem_range.2 hi, by simp [Lib.keeps, h]⟩, rfl⟩
theorem compactUpTo_up {R : α → α → Prop} (anti : ∀ a b, R a b → R b a → a = b) (refl : ∀ a, R a a) (d : Array α) (m : Nat) (hs : ∀ i j, i ≤ j → j < m → R d[i]! d[j]!) : (Lib.compactUpTo d m).Pairwise (fun a b => R a b ∧ a ≠ b) := by
  unfold Lib.compactUpTo
  rw [List.pairwise_map]
  have h1 : ((List.range m).filter (Lib.keeps d)).Pairwise (fun i j => i < j ∧ j < m ∧ Lib.keeps d j = true) := by
    refine List.Pairwise.imp_of_mem (R := (· < ·)) (fun {i j} hi hj h => ⟨h, List.mem_range.1 (List.mem_filter.1 hj).1, (List.mem_filter.1 hj).2⟩) ?_
    exact List.Pairwise.filter _ List.pairwise_lt_range
  refine h1.imp fun {i j} ⟨h2, h3, h4⟩ => ⟨hs i j (by omega) h3, fun e => ?_⟩
  have h5 : d[j]! ≠ d[j - 1]! := by
    rcases of_decide_eq_true h4 with h | h
    · omega
    · exact h
  refine h5 (anti _ _ ?_ (hs (j - 1) j (by omega) h3))
  rw [← e]
  exact hs i (j - 1) (by omega) (by omega)
theorem compact_mem (zs : List α) (x : α) : x ∈ Lib.compact zs ↔ x ∈ zs := by
  unfold Lib.compact
  rw [compactUpTo_mem]
  constructor
  · rintro ⟨i, hi, rfl⟩
    simp [hi]
  · intro h
    obtain ⟨i, hi, rfl⟩ := List.getElem_of_mem h
    exact ⟨i, hi, by simp [hi]⟩
theorem compact_up {R : α → α → Prop} (anti : ∀ a b, R a b → R b a → a = b) (refl : ∀ a, R a a) {zs : List α} (hs : zs.Pairwise R) : (Lib.compact zs).Pairwise (fun a b => R a b ∧ a ≠ b) := by
  unfold Lib.compact
  refine compactUpTo_up anti refl _ _ fun i j h1 h2 => ?_
  rcases Nat.eq_or_lt_of_le h1 with rfl | h1
  · exact refl _
  · have := List.pairwise_iff_getElem.1 hs i j (by omega) h2 h1
    simpa [h2, show i < zs.length by omega] using this
omit [Inhabited α] [DecidableEq α] in
/-- Two rising lists of the same elements are one. -/
theorem up_ext {S : α → α → Prop} (irr : ∀ a, ¬ S a a) (asy : ∀ a b, S a b → S b a → False) {xs ys : List α} (hx : xs.Pairwise S) (hy : ys.Pairwise S) (h : ∀ x, x ∈ xs ↔ x ∈ ys) : xs = ys := by
  induction xs generalizing ys with
  | nil =>
    cases ys with
    | nil => rfl
    | cons y t => exact absurd ((h y).2 (by simp)) (by simp)
  | cons x s ih =>
    cases ys with
    | nil => exact absurd ((h x).1 (by simp)) (by simp)
    | cons y t =>
      obtain ⟨hx1, hx2⟩ := List.pairwise_cons.1 hx
      obtain ⟨hy1, hy2⟩ := List.pairwise_cons.1 hy
      have e : x = y := by
        rcases List.mem_cons.1 ((h x).1 (by simp)) with e | h1
        · exact e
        · rcases List.mem_cons.1 ((h y).2 (by simp)) with e | h2
          · exact e.symm
          · exact (asy _ _ (hy1 x h1) (hx1 y h2)).elim
      subst e
      rw [ih hx2 hy2 fun z => ?_]
      constructor
      · intro hz
        rcases List.mem_cons.1 ((h z).1 (by simp [hz])) with e | h1
        · subst e; exact absurd (hx1 z hz) (irr z)
        · exact h1
      · intro hz
        rcases List.mem_cons.1 ((h z).2 (by simp [hz])) with e | h1
        · subst e; exact absurd (hy1 z hz) (irr z)
        · exact h1
end
end Go.Proofs.YtjcajidgaejhoaaGreat

namespace Go.Proofs.YtjcajidgaejhoaaGreat
open Go.RowKit
set_option linter.unusedSimpArgs false
set_option linter.unusedVariables false

theorem insS_mem (out : List ByteArray) (x y : ByteArray) : y ∈ insS out x ↔ y = x ∨ y ∈ out := by
  unfold insS
  by_cases h : memS x out = true
  · rw [if_pos h]
    have hx := memS_iff.1 h
    exact ⟨.inr, fun h => by rcases h with rfl | h <;> assumption⟩
  · rw [if_neg h]
    constructor
    · exact fun h => mem_ins h
    · rintro (rfl | h1)
      · simp
      · rw [← List.take_append_drop (rankS out x) out] at h1
        rcases List.mem_append.1 h1 with h1 | h1 <;> simp [h1]
theorem srtS_mem (l : List ByteArray) (y : ByteArray) : y ∈ srtS l ↔ y ∈ l := by
  suffices h : ∀ (l out : List ByteArray), y ∈ l.foldl insS out ↔ y ∈ l ∨ y ∈ out by
    have := h l []
    simpa [srtS] using this
  intro l
  induction l with
  | nil => simp
  | cons x t ih =>
    intro out
    rw [List.foldl_cons, ih, insS_mem]
    simp only [List.mem_cons]
    constructor
    · rintro (h | h | h)
      · exact .inl (.inr h)
      · exact .inl (.inl h)
      · exact .inr h
    · rintro ((h | h) | h)
      · exact .inr (.inl h)
      · exact .inl h
      · exact .inr (.inr h)
/-- A text of its bytes. -/
def mkS (l : List UInt8) : ByteArray := ⟨l.toArray⟩
def bsS (s : ByteArray) : List UInt8 := s.data.toList
theorem mkS_bsS (s : ByteArray) : mkS (bsS s) = s := rfl
theorem bsS_mkS (l : List UInt8) : bsS (mkS l) = l := rfl
theorem toList_bsS (s : ByteArray) : s.toList = bsS s := by unfold bsS; rw [ByteArray.toList_eq]
theorem ltS_iff (a b : List UInt8) : ltS (mkS a) (mkS b) = true ↔ a < b := by
  unfold ltS
  rw [bytesLess_lt, toList_bsS, toList_bsS, bsS_mkS, bsS_mkS]
  simp
theorem sorted_compact (zs : List ByteArray) : (Lib.compact ((zs.map bsS).mergeSort fun x y => decide (x ≤ y))).map mkS = srtS zs := by
  have hp : ((zs.map bsS).mergeSort fun x y => decide (x ≤ y)).Pairwise (fun a b => a ≤ b) := by
    have := List.pairwise_mergeSort (le := fun (x y : List UInt8) => decide (x ≤ y)) (fun a b c h1 h2 => by simp at *; exact List.le_trans h1 h2) (fun a b => by simp; exact List.le_total a b) (zs.map bsS)
    exact this.imp fun h => by simpa using h
  refine up_ext (S := fun a b => ltS a b = true) (fun a h => by rw [ltS_irrefl] at h; cases h) (fun a b h1 h2 => by rw [ltS_asymm h1] at h2; cases h2) ?_ (srtS_up zs) fun y => ?_
  · rw [List.pairwise_map]
    refine (compact_up (R := fun (a b : List UInt8) => a ≤ b) (fun a b h1 h2 => List.le_antisymm h1 h2) (fun a => List.le_refl a) hp).imp fun {a b} ⟨h1, h2⟩ => ?_
    rw [ltS_iff]
    rcases Decidable.em (a < b) with h | h
    · exact h
    · exact absurd (List.le_antisymm h1 h) h2
  · rw [srtS_mem]
    constructor
    · intro h
      obtain ⟨x, hx, rfl⟩ := List.mem_map.1 h
      have := (List.mem_mergeSort).1 ((compact_mem _ _).1 hx)
      obtain ⟨z, hz, rfl⟩ := List.mem_map.1 this
      exact hz
    · intro h
      exact List.mem_map.2 ⟨bsS y, (compact_mem _ _).2 (List.mem_mergeSort.2 (List.mem_map.2 ⟨y, h, rfl⟩)), rfl⟩
end Go.Proofs.YtjcajidgaejhoaaGreat

namespace Go.Proofs.YtjcajidgaejhoaaGreat
open Go.RowKit Go.Sort
set_option linter.unusedSimpArgs false
set_option linter.unusedVariables false

theorem encStr_eq (l : List UInt8) : encStr l = .string (mkS l) := rfl
theorem flat_mkS (l : List (List UInt8)) : (l.map mkS).flatMap encS = l.map encStr := by
  induction l with
  | nil => rfl
  | cons a t ih => rw [List.map_cons, List.flatMap_cons, ih]; rfl
theorem putCellsS (d : Array (List UInt8)) (cs : Array Value) (h : d.size ≤ cs.size) : (putCells encStr 0 d cs).toList.take d.size = (d.toList.map mkS).flatMap encS := by
  rw [flat_mkS]
  apply List.ext_getElem
  · simp [putCells]; omega
  · intro i h1 h2
    have hi : i < d.size := by simpa using h2
    simp [putCells, hi]
theorem putS_blk {w : World} {b T n : Nat} {cs : Array Value} {d : Array (List UInt8)} {os : Array Obj} (h : Blk w b T cs) : Blk (grow (putRow encStr (Sort.ahead w n) b 0 d) os) b T (putCells encStr 0 d cs) := by
  have hlt := h.lt
  unfold Blk at *
  show ((putRow encStr (Sort.ahead w n) b 0 d).heap ++ os)[b]? = _
  rw [Array.getElem?_append_left (by simpa [Sort.ahead] using hlt)]
  simp [putRow, mapBlock, Sort.ahead, h, Array.getElem?_modify, onCells]
theorem putS_frame {w : World} {b n : Nat} {d : Array (List UInt8)} {os : Array Obj} : Frame [b] w (grow (putRow encStr (Sort.ahead w n) b 0 d) os) := by
  refine ⟨rfl, rfl, rfl, ?_, fun k hk hS => ?_⟩
  · show w.heap.size ≤ ((putRow encStr (Sort.ahead w n) b 0 d).heap ++ os).size
    rw [Array.size_append, size_putRow]
    exact Nat.le_add_right _ _
  · have hb : ¬ b = k := fun e => hS (by simp [e])
    show ((putRow encStr (Sort.ahead w n) b 0 d).heap ++ os)[k]? = _
    rw [Array.getElem?_append_left (by simpa [Sort.ahead] using hk)]
    simp [putRow, mapBlock, Sort.ahead, Array.getElem?_modify, hb]
/-- The first m of what was put. -/
theorem putS_sl {w : World} {b cap n m : Nat} {xs : List ByteArray} {ys : List (List UInt8)} {os : Array Obj} (h : RowAt w b 9 1 xs.length cap (xs.flatMap encS)) (hl : ys.length = xs.length) (hm : m ≤ ys.length) :
    Sl (grow (putRow encStr (Sort.ahead w n) b 0 ys.toArray) os) 9 1 encS (.slice (some ⟨b, 0, none⟩) m cap) ((ys.take m).map mkS) [b] := by
  obtain ⟨cs, h1, h2, h3, h4, h5⟩ := h.blk
  have hlm : ((ys.take m).map mkS).length = m := by simp; omega
  refine .inr ⟨b, cap, by rw [hlm], rfl, RowAt.of_blk (putS_blk h1) (by omega) h3 (by simpa [putCells] using h4) ?_⟩
  have := putCellsS ys.toArray cs (by simp; omega)
  rw [hlm, Nat.mul_one]
  have h9 : (putCells encStr 0 ys.toArray cs).toList.take m = ((putCells encStr 0 ys.toArray cs).toList.take ys.toArray.size).take m := by
    rw [List.take_take, Nat.min_eq_left (by simpa using hm)]
  rw [h9, this, flat_mkS, flat_mkS, List.map_take]
theorem holdsS_sl {w : World} {b cap : Nat} {xs : List ByteArray} (h : RowAt w b 9 1 xs.length cap (xs.flatMap encS)) : Holds encStr w b 0 (xs.map bsS).toArray := by
  intro j hj
  have hj' : j < xs.length := by simpa using hj
  refine ⟨?_, h.frozen _⟩
  rw [Nat.zero_add]
  refine h.cell ?_
  have := flat_get (sz := 1) encS_len (xs := xs) (k := j) (x := xs[j]) (by simp [hj']) (j := 0) (u := .string xs[j]) rfl
  rw [Nat.mul_one, Nat.add_zero] at this
  rw [this]
  simp [hj']
  rfl
theorem sortS_sl (v : Value) (xs : List ByteArray) (G : List Nat) (w : World) (h : Sl w 9 1 encS v xs G) (hl : xs.length ≤ 1000000) :
    Calls Tryz.prog 45 #[v] w fun e w' => e = .returned (.tuple #[]) ∧ Sl w' 9 1 encS v (((xs.map bsS).mergeSort fun x y => decide (x ≤ y)).map mkS) G ∧ Frame G w w' := by
  rcases id h with ⟨rfl, rfl, rfl⟩ | ⟨b, cap, rfl, rfl, hr⟩
  · refine (Tryz.slices_Sort_string_none none 0 w).mono ?_
    rintro e w' ⟨he, rfl⟩
    exact ⟨he, by simpa using Sl.nil _ _ _ _, Frame.refl _ _⟩
  · have hlen : (xs.map bsS).length = xs.length := List.length_map ..
    have hc := Tryz.slices_Sort_string b 0 cap (xs.map bsS) w (holdsS_sl hr) hr.lt (by rw [hlen]; omega)
    rw [hlen] at hc
    refine hc.mono ?_
    rintro e w' ⟨he, n, os, rfl⟩
    have := putS_sl (n := n) (os := os) (m := xs.length) hr (ys := (xs.map bsS).mergeSort fun x y => decide (x ≤ y)) (by simp) (by simp)
    rw [List.take_of_length_le (by simp)] at this
    exact ⟨he, this, putS_frame⟩
theorem compact_len {α : Type} [Inhabited α] [DecidableEq α] (zs : List α) : (Lib.compact zs).length ≤ zs.length := by
  unfold Lib.compact Lib.compactUpTo
  rw [List.length_map]
  have := List.length_filter_le (Lib.keeps zs.toArray) (List.range zs.length)
  simpa using this
theorem compactS_sl (v : Value) (xs : List ByteArray) (G : List Nat) (w : World) (h : Sl w 9 1 encS v xs G) (hl : xs.length ≤ 1000000) :
    Calls Tryz.prog 46 #[v] w fun e w' => ∃ a c, e = .returned (.slice a (Lib.compact (xs.map bsS)).length c) ∧ Sl w' 9 1 encS (.slice a (Lib.compact (xs.map bsS)).length c) ((Lib.compact (xs.map bsS)).map mkS) G ∧ Frame G w w' := by
  rcases id h with ⟨rfl, rfl, rfl⟩ | ⟨b, cap, rfl, rfl, hr⟩
  · refine (Tryz.slices_Compact_string_empty none 0 w).mono ?_
    rintro e w' ⟨he, rfl⟩
    exact ⟨none, 0, he, Sl.nil _ _ _ _, Frame.refl _ _⟩
  · obtain ⟨cs, h1, h2, h3, h4, h5⟩ := hr.blk
    have hlen : (xs.map bsS).length = xs.length := List.length_map ..
    have hc := Tryz.slices_Compact_string b 0 cap (xs.map bsS) w (holdsS_sl hr) (by rw [hlen]; omega) (by rw [hlen]; exact h2)
    rw [hlen] at hc
    have hcl := compact_len (xs.map bsS)
    rw [hlen] at hcl
    refine hc.mono ?_
    rintro e w' ⟨he, n, rfl⟩
    have := putS_sl (n := n) (os := #[]) (m := (Lib.compact (xs.map bsS)).length) hr (ys := Lib.compact (xs.map bsS) ++ List.replicate (xs.length - (Lib.compact (xs.map bsS)).length) []) (by simp; omega) (by simp)
    rw [grow_empty, List.take_left] at this
    have f := putS_frame (w := w) (b := b) (n := n) (d := (Lib.compact (xs.map bsS) ++ List.replicate (xs.length - (Lib.compact (xs.map bsS)).length) []).toArray) (os := #[])
    rw [grow_empty] at f
    exact ⟨some ⟨b, 0, none⟩, cap, he, this, f⟩
end Go.Proofs.YtjcajidgaejhoaaGreat

namespace Go.Proofs.YtjcajidgaejhoaaGreat
open Go.RowKit
set_option linter.unusedSimpArgs false
set_option linter.unusedVariables false

theorem entered_il : Entered 44 := by intro args w; simp [go_sem]
theorem ilabels_fn (e : Ed) (w : World) : Calls Tryz.prog 44 #[.agg #[.int .i64 e.tok, .int .i64 e.src, .string e.lab, .int .i64 e.dst]] w fun x w' => x = .returned (.bool true) ∧ Frame [] w w' := by
  go_enter Tryz.func44, Tryz.ntmps44
  go_wp2_with fail
  go_ret
  exact ⟨rfl, Frame.alloc _ _ _⟩

set_option maxHeartbeats 8000000 in
set_option maxRecDepth 100000 in
theorem ilabels_any {U : Nat → Prop} {xb : Nat} {ns : List Nv} {es : List Ed} {given : Int} {w : World} (h : IX U xb ns es given w) (hl : es.length ≤ 1000000) :
    Calls Tryz.prog 21 #[.pointer (some ⟨xb, 0, none⟩)] w (FreshEnd 9 1 encS (srtS (es.map (·.lab))) w) := by
  have HO := Lib.hid (only_any 44 #[] (fun _ => true) h ⟨entered_il, fun w' f e => ilabels_fn e w'⟩ hl)
  rw [show es.filter (fun _ => true) = es from List.filter_eq_self.2 (fun _ _ => rfl)] at HO
  clear h
  go_enter Tryz.func21, Tryz.ntmps21
  go_wp2_with fail
  refine HO.out.mono ?_
  clear HO
  rintro e w1 ⟨ea, ec, EG, rfl, se, f1, -⟩
  have HE := Lib.hid (se.rf ed_len (U := fun _ => True) (fun _ _ => trivial))
  have F1 := Lib.hid f1
  clear se f1
  go_wp2_with fail
  go_loopw [2, 8] (fun u i wr => ∃ (k : Nat) (a : Option Addr) (c : Nat) (G : List Nat), k ≤ es.length ∧ i = .int .i64 k ∧ u = .slice a k c ∧ Hid (Frame [] w1 wr ∧ Sl wr 9 1 encS (.slice a k c) ((es.take k).map (·.lab)) G ∧ ∀ x ∈ G, w1.heap.size ≤ x)) (fun _ i _ => es.length - (intOf i).toNat)
  case atStart => exact ⟨0, none, 0, [], Nat.zero_le _, rfl, rfl, Frame.refl _ _, Sl.nil _ _ _ _, by simp⟩
  case round =>
    obtain ⟨k, a, c, G, hk, rfl, rfl, hR⟩ := hrel
    by_cases hlt : k < es.length
    · have g1 : es[k]? = some es[k] := by simp [hlt]
      obtain ⟨b, off, rfl, -, q⟩ := (HE.out.frame0 hR.out.1) k _ g1
      have d0 := q 0 _ rfl
      have d1 := q 1 _ rfl
      have d2 := q 2 _ rfl
      have d3 := q 3 _ rfl
      simp only [Nat.add_zero] at d0
      have hmap : (es.take (k + 1)).map (·.lab) = (es.take k).map (·.lab) ++ [es[k].lab] := by rw [take_one' g1, List.map_append]; rfl
      have hlenk : ((es.take k).map (·.lab)).length = k := by simp; omega
      generalize es[k] = ed at *
      obtain ⟨tk, sr, lb, ds⟩ := ed
      simp only at d0 d1 d2 d3 hmap
      have HM := Lib.hid hmap
      clear g1 q hmap
      go_wp2_with (at_builtin; refine wpList_append_rf rfl (.tmp 12) (.tmp 15) 38 rfl 9 1 16 _ encS Tryz.underlying38 infoStr rfl (by omega) _ ((es.take k).map (·.lab)) k hlenk G rfl ((hR.out.2.1.frame0 (Frame.alloc _ _ _)).frame0 (Frame.alloc _ _ _)) (fun y => y = wr.heap.size + 1) _ 1 1 [lb] rfl (rf_one (Blk.fresh (by simp)) _ rfl) rfl encS_len encS_one (k + 1) rfl (by omega) (by omega) ?_; intro a8 c8 w8 G8 sl8 f8 hG8)
      have F6 : Hid (Frame [] wr (wr.alloc (.cells #[.int .i64 tk, .int .i64 sr, .string lb, .int .i64 ds] 44))) := Lib.hid (Frame.alloc _ _ _)
      have hz := (hR.out.1.trans1 F6.out).size
      have F8 : Hid (Frame [] w1 w8) := ((hR.out.1.trans1 F6.out).trans1 (Frame.alloc [] _ _)).trans f8 (fun x hx => .inr (hR.out.2.2 x hx))
      have hg8 : ∀ x ∈ G8, w1.heap.size ≤ x := fun x hx => by
        rcases hG8 x hx with h | h
        · exact hR.out.2.2 x h
        · have := hR.out.1.size; simp at h; omega
      have S8 := Lib.hid (And.intro sl8 hg8)
      clear sl8 f8 hG8 hg8 d0 d1 d2 d3
      go_wp2_with fail
      go_roundw
      case rel => exact ⟨k + 1, a8, c8, G8, by omega, by first | rfl | go_num, rfl, Lib.hid ⟨F8.out, by rw [HM.out]; exact S8.out.1, S8.out.2⟩⟩
      case measure => first | (simp [intOf]; done) | (simp [intOf]; omega)
    · obtain rfl : k = es.length := by omega
      obtain ⟨q1, q2, q3⟩ := hR.out
      rw [List.take_length] at q2
      have hlm : (es.map (·.lab)).length = es.length := List.length_map ..
      have HS := Lib.hid (sortS_sl _ (es.map (·.lab)) G wr q2 (by rw [hlm]; exact hl))
      have hsl : ((((es.map (·.lab)).map bsS).mergeSort fun x y => decide (x ≤ y)).map mkS).length ≤ 1000000 := by simp; exact hl
      have hcmp : Lib.compact (((((es.map (·.lab)).map bsS).mergeSort fun x y => decide (x ≤ y)).map mkS).map bsS) = Lib.compact (((es.map (·.lab)).map bsS).mergeSort fun x y => decide (x ≤ y)) := by
        congr 1
        rw [List.map_map]
        exact (List.map_congr_left (fun x _ => bsS_mkS x)).trans (List.map_id _)
      have hsrt := sorted_compact (es.map (·.lab))
      generalize (((es.map (·.lab)).map bsS).mergeSort fun x y => decide (x ≤ y)) = sl at *
      have HH := Lib.hid (And.intro q1 (And.intro q3 (And.intro hsl (And.intro hcmp hsrt))))
      clear hR q1 q2 q3 hlt hsl hcmp hsrt
      go_wp2_with fail
      refine HS.out.mono ?_
      rintro e w2 ⟨rfl, s2, f2⟩
      have hc := compactS_sl _ (sl.map mkS) G w2 s2 HH.out.2.2.1
      rw [HH.out.2.2.2.1, HH.out.2.2.2.2] at hc
      have hl2 : (Lib.compact sl).length = (srtS (es.map (·.lab))).length := by rw [← HH.out.2.2.2.2, List.length_map]
      rw [hl2] at hc
      have HC := Lib.hid hc
      have F2 := Lib.hid f2
      clear s2 f2 HS hc hl2
      go_wp2_with fail
      refine HC.out.mono ?_
      rintro e w3 ⟨a3, c3, rfl, s3, f3⟩
      have S3 := Lib.hid (And.intro s3 f3)
      clear s3 f3 HC
      go_wp2_with fail
      go_ret
      refine ⟨a3, c3, G, rfl, S3.out.1, ?_, fun x hx => ?_⟩
      · have g := F1.out.trans1 HH.out.1
        exact g.trans ((F2.out.mono (fun x hx => .inl hx)).trans1 S3.out.2) (fun x hx => .inr (Nat.le_trans F1.out.size (HH.out.2.1 x hx)))
      · exact Nat.le_trans F1.out.size (HH.out.2.1 x hx)
end Go.Proofs.YtjcajidgaejhoaaGreat

