/- The index: what it holds, and its edges. The index: Out, Edges, Count. slices.Clone at ints. The index: Ids, Has, New. -/
import Derived.Test.YtjcajidgaejhoaaGreatMi38
import Derived.Test.YtjcajidgaejhoaaGreatMi07
import Derived.Test.YtjcajidgaejhoaaGreatMi39
namespace Go.Proofs.YtjcajidgaejhoaaGreat
open Go.RowKit
set_option linter.unusedSimpArgs false
set_option linter.unusedVariables false

/-- An index at block xb: its graph, its nodes' numbers, its edges; read in blocks of U. -/
def IX (U : Nat → Prop) (xb : Nat) (ns : List Nv) (es : List Ed) (given : Int) (w : World) : Prop :=
  U xb ∧ ∃ gb na nc ea ec, Blk w xb 77 #[.pointer (some ⟨gb, 0, none⟩), .slice na ns.length nc, .slice ea es.length ec] ∧ (∃ F, GV w gb F ns es given ∧ ∀ x ∈ F, U x) ∧ (∃ N, Sl w 3 1 encI (.slice na ns.length nc) (ns.map (·.1)) N ∧ ∀ x ∈ N, U x) ∧ RF U w 4 Ed.cs ea es
theorem IX.frame {U : Nat → Prop} {xb : Nat} {ns : List Nv} {es : List Ed} {given : Int} {w w' : World} {S : List Nat} (h : IX U xb ns es given w) (f : Frame S w w') (hS : ∀ b, U b → b ∉ S) : IX U xb ns es given w' := by
  obtain ⟨h0, gb, na, nc, ea, ec, h1, ⟨F, h2, h3⟩, ⟨N, h4, h6⟩, h5⟩ := h
  exact ⟨h0, gb, na, nc, ea, ec, h1.frame f (hS _ h0), ⟨F, h2.frame f (fun x hx => hS x (h3 x hx)), h3⟩, ⟨N, h4.frame f (fun x hx => hS x (h6 x hx)), h6⟩, h5.frame f hS⟩
theorem IX.frame0 {U : Nat → Prop} {xb : Nat} {ns : List Nv} {es : List Ed} {given : Int} {w w' : World} (h : IX U xb ns es given w) (f : Frame [] w w') : IX U xb ns es given w' := h.frame f (by simp)
theorem Blk.fresh {w : World} {T : TypeId} {cs : Array Value} {b : Nat} (h : b = w.heap.size) : Blk (w.alloc (.cells cs T)) b T cs := by subst h; exact Blk.new _ _ _
/-- A new slice. -/
def FreshEnd {α : Type} (T sz : Nat) (enc : α → List Value) (xs : List α) (w : World) (e : Ending) (w' : World) : Prop := ∃ a c G, e = .returned (.slice a xs.length c) ∧ Sl w' T sz enc (.slice a xs.length c) xs G ∧ Frame [] w w' ∧ ∀ x ∈ G, w.heap.size ≤ x
theorem FreshEnd.behind {α : Type} {T sz : Nat} {enc : α → List Value} {xs : List α} {w w1 w' : World} {e : Ending} (f : Frame [] w w1) (h : FreshEnd T sz enc xs w1 e w') : FreshEnd T sz enc xs w e w' := by
  obtain ⟨a, c, G, h1, h2, h3, h4⟩ := h
  exact ⟨a, c, G, h1, h2, f.trans1 h3, fun x hx => Nat.le_trans f.size (h4 x hx)⟩
theorem filter_in {α : Type} {p : α → Bool} {xs : List α} {k : Nat} {x : α} (h : xs[k]? = some x) (hp : p x = true) : (xs.take (k + 1)).filter p = (xs.take k).filter p ++ [x] := by
  rw [take_one' h, List.filter_append]; simp [hp]
theorem filter_out {α : Type} {p : α → Bool} {xs : List α} {k : Nat} {x : α} (h : xs[k]? = some x) (hp : p x = false) : (xs.take (k + 1)).filter p = (xs.take k).filter p := by
  rw [take_one' h, List.filter_append]; simp [hp]

set_option maxHeartbeats 8000000 in
set_option maxRecDepth 100000 in
theorem only_any {U : Nat → Prop} {xb : Nat} {ns : List Nv} {es : List Ed} {given : Int} {w : World} (K : Nat) (caps : Array Value) (p : Ed → Bool) (h : IX U xb ns es given w) (hp : TellsE w K caps p) (hl : es.length ≤ 1000000) :
    Calls Tryz.prog 41 #[.pointer (some ⟨xb, 0, none⟩), .func (.func K) #[] caps] w (FreshEnd 44 4 Ed.cs (es.filter p) w) := by
  obtain ⟨-, gb, na, nc, ea, ec, hb, -, -, he⟩ := h
  obtain ⟨eg, hp⟩ := hp
  have HP := Lib.hid hp
  have HE := Lib.hid he
  have HB := Lib.hid hb
  clear he hp
  have c2 := hb.at 2 rfl
  clear hb
  go_enter Tryz.func41, Tryz.ntmps41
  go_wp2_with fail
  clear c2
  go_loopw [4, 14] (fun u i wr => ∃ (k : Nat) (a : Option Addr) (n c : Nat) (G : List Nat), k ≤ es.length ∧ i = .int .i64 k ∧ u = .slice a n c ∧ n ≤ k ∧ Hid (Frame [] w wr ∧ Sl wr 44 4 Ed.cs (.slice a n c) ((es.take k).filter p) G ∧ ((es.take k).filter p).length = n ∧ ∀ x ∈ G, w.heap.size ≤ x)) (fun _ i _ => es.length - (intOf i).toNat)
  case atStart => exact ⟨0, none, 0, 0, [], Nat.zero_le _, rfl, rfl, Nat.le_refl _, Frame.refl _ _, Sl.nil _ _ _ _, rfl, by simp⟩
  case round =>
    obtain ⟨k, a, n, c, G, hk, rfl, rfl, hnk, hR⟩ := hrel
    by_cases hlt : k < es.length
    · have g1 : es[k]? = some es[k] := by simp [hlt]
      obtain ⟨b, off, rfl, -, q⟩ := (HE.out.frame0 hR.out.1) k _ g1
      have d0 := q 0 _ rfl
      have d1 := q 1 _ rfl
      have d2 := q 2 _ rfl
      have d3 := q 3 _ rfl
      simp only [Nat.add_zero] at d0
      generalize es[k] = ed at *
      have HP1 := Lib.hid (fun w' (f : Frame [] wr w') => HP.out w' (hR.out.1.trans1 f) ed)
      obtain ⟨r, hr⟩ : ∃ r, p ed = r := ⟨_, rfl⟩
      rw [hr] at HP1
      have HPR := Lib.hid hr
      obtain ⟨tk, sr, lb, ds⟩ := ed
      simp only at d0 d1 d2 d3
      have G1 := Lib.hid g1
      have hcall := eg (#[.agg #[.int .i64 tk, .int .i64 sr, .string lb, .int .i64 ds]] ++ caps)
      clear g1 q hr
      go_wp2_with fail
      have b6 := Blk.new wr 44 #[.int .i64 tk, .int .i64 sr, .string lb, .int .i64 ds]
      have f6 := Frame.alloc [] wr (.cells #[.int .i64 tk, .int .i64 sr, .string lb, .int .i64 ds] 44)
      generalize wr.alloc (.cells #[.int .i64 tk, .int .i64 sr, .string lb, .int .i64 ds] 44) = w6 at *
      generalize wr.heap.size = b9 at *
      have B6 := Lib.hid b6
      have F6 := Lib.hid f6
      clear d0 d1 d2 d3 b6 f6
      have e0 := B6.out.at 0 rfl
      have e1 := B6.out.at 1 rfl
      have e2 := B6.out.at 2 rfl
      have e3 := B6.out.at 3 rfl
      clear hcall
      refine (HP1.out _ F6.out).mono ?_
      clear HP1
      rintro e w7 ⟨rfl, f7⟩
      have F7 := Lib.hid (F6.out.trans1 f7)
      have B7 := Lib.hid (B6.out.frame f7 (by simp))
      clear e0 e1 e2 e3 f7 B6
      cases r with
      | false =>
        go_wp2_with fail
        go_roundw
        case rel => exact ⟨k + 1, a, n, c, G, by omega, by first | rfl | go_num, rfl, by omega, Lib.hid ⟨hR.out.1.trans1 F7.out, by rw [filter_out G1.out HPR.out]; exact hR.out.2.1.frame0 F7.out, by rw [filter_out G1.out HPR.out]; exact hR.out.2.2.1, hR.out.2.2.2⟩⟩
        case measure => first | (simp [intOf]; done) | (simp [intOf]; omega)
      | true =>
        have e0 := B7.out.at 0 rfl
        have e1 := B7.out.at 1 rfl
        have e2 := B7.out.at 2 rfl
        have e3 := B7.out.at 3 rfl
        go_wp2_with (at_builtin; refine wpList_append_rf rfl (.tmp 21) (.tmp 23) 23 rfl 44 4 40 _ Ed.cs Tryz.underlying23 infoEdge rfl (by omega) _ ((es.take k).filter p) n hR.out.2.2.1 G rfl ((hR.out.2.1.frame0 F7.out).frame0 (Frame.alloc _ _ _)) (fun y => y = w7.heap.size) _ 1 1 [⟨tk, sr, lb, ds⟩] rfl (rf_one (Blk.new _ _ _) _ rfl) rfl ed_len ed_one (n + 1) rfl (by omega) (by omega) ?_; intro a8 c8 w8 G8 sl8 f8 hG8)
        have hz := (hR.out.1.trans1 F7.out).size
        have F8 : Hid (Frame [] w w8) := ((hR.out.1.trans1 F7.out).trans1 (Frame.alloc [] w7 _)).trans f8 (fun x hx => .inr (hR.out.2.2.2 x hx))
        have hg8 : ∀ x ∈ G8, w.heap.size ≤ x := fun x hx => by
          rcases hG8 x hx with h | h
          · exact hR.out.2.2.2 x h
          · simp at h; omega
        have S8 := Lib.hid (And.intro sl8 hg8)
        clear sl8 f8 hG8 hg8 e0 e1 e2 e3
        go_wp2_with fail
        go_roundw
        case rel => exact ⟨k + 1, a8, n + 1, c8, G8, by omega, by first | rfl | go_num, rfl, by omega, Lib.hid ⟨F8.out, by rw [filter_in G1.out HPR.out]; exact S8.out.1, by rw [filter_in G1.out HPR.out, List.length_append, hR.out.2.2.1]; rfl, S8.out.2⟩⟩
        case measure => first | (simp [intOf]; done) | (simp [intOf]; omega)
    · obtain rfl : k = es.length := by omega
      go_wp2_with fail
      go_ret
      have hR' := hR.out
      rw [List.take_length] at hR'
      obtain ⟨q1, q2, rfl, q4⟩ := hR'
      exact ⟨a, c, G, rfl, q2, q1, q4⟩
end Go.Proofs.YtjcajidgaejhoaaGreat

namespace Go.Proofs.YtjcajidgaejhoaaGreat
open Go.RowKit
set_option linter.unusedSimpArgs false
set_option linter.unusedVariables false

theorem entered_ie : Entered 43 := by intro args w; simp [go_sem]
theorem entered_io : Entered 42 := by intro args w; simp [go_sem]
/-- The edges with a label. -/
def labP (s : ByteArray) (e : Ed) : Bool := decide (e.lab = s)
/-- The edges at a node. -/
def outP (t : Int) (s : ByteArray) (back : Bool) (e : Ed) : Bool := decide ((if back = true then e.dst else e.src) = t) && decide (e.lab = s)
theorem iedges_fn (s : ByteArray) (e : Ed) (cb : Nat) (w : World) (hc : w.cell? ⟨cb, 0, none⟩ = some (.string s)) :
    Calls Tryz.prog 43 #[.agg #[.int .i64 e.tok, .int .i64 e.src, .string e.lab, .int .i64 e.dst], .pointer (some ⟨cb, 0, none⟩)] w fun x w' => x = .returned (.bool (labP s e)) ∧ Frame [] w w' := by
  have hcb := World.block_lt_of_cell? w _ hc
  have hcn : ∀ o, (w.alloc o).cell? ⟨cb, 0, none⟩ = some (.string s) := fun o => (Frame.alloc [] w o).cell hc (by simp)
  clear hc
  by_cases h1 : e.lab = s
  · have e1 : labP s e = true := by simp [labP, h1]
    have h2 := beq_toList_true h1
    rw [e1]
    clear e1 h1
    go_enter Tryz.func43, Tryz.ntmps43
    go_wp2_with fail
    go_ret
    exact ⟨rfl, Frame.alloc _ _ _⟩
  · have e1 : labP s e = false := by simp [labP, h1]
    have h2 := beq_toList_false h1
    rw [e1]
    clear e1 h1
    go_enter Tryz.func43, Tryz.ntmps43
    go_wp2_with fail
    go_ret
    exact ⟨rfl, Frame.alloc _ _ _⟩
theorem iout_fn (t : Int) (s : ByteArray) (back : Bool) (e : Ed) (kb ib lb : Nat) (w : World) (hk : w.cell? ⟨kb, 0, none⟩ = some (.bool back)) (hi : w.cell? ⟨ib, 0, none⟩ = some (.int .i64 t)) (hl : w.cell? ⟨lb, 0, none⟩ = some (.string s)) :
    Calls Tryz.prog 42 #[.agg #[.int .i64 e.tok, .int .i64 e.src, .string e.lab, .int .i64 e.dst], .pointer (some ⟨kb, 0, none⟩), .pointer (some ⟨ib, 0, none⟩), .pointer (some ⟨lb, 0, none⟩)] w fun x w' => x = .returned (.bool (outP t s back e)) ∧ Frame [] w w' := by
  have hk1 : ∀ o, (w.alloc o).cell? ⟨kb, 0, none⟩ = some (.bool back) := fun o => (Frame.alloc [] w o).cell hk (by simp)
  have hi1 : ∀ o, (w.alloc o).cell? ⟨ib, 0, none⟩ = some (.int .i64 t) := fun o => (Frame.alloc [] w o).cell hi (by simp)
  have hl1 : ∀ o, (w.alloc o).cell? ⟨lb, 0, none⟩ = some (.string s) := fun o => (Frame.alloc [] w o).cell hl (by simp)
  clear hk hi hl
  obtain ⟨at9, hat⟩ : ∃ x, (if back = true then e.dst else e.src) = x := ⟨_, rfl⟩
  obtain ⟨tk, sr, lb9, ds⟩ := e
  simp only at hat
  unfold outP
  simp only [hat]
  cases back with
  | false =>
    simp at hat; subst hat
    by_cases h1 : sr = t
    · have h2 : (sr == t) = true := by simpa using h1
      by_cases h3 : lb9 = s
      · have h4 := beq_toList_true h3
        rw [decide_eq_true h1, decide_eq_true h3]
        clear h1 h3
        go_enter Tryz.func42, Tryz.ntmps42
        go_wp2_with fail
        go_ret
        exact ⟨rfl, Frame.alloc _ _ _⟩
      · have h4 := beq_toList_false h3
        rw [decide_eq_true h1, decide_eq_false h3]
        clear h1 h3
        go_enter Tryz.func42, Tryz.ntmps42
        go_wp2_with fail
        go_ret
        exact ⟨rfl, Frame.alloc _ _ _⟩
    · have h2 : (sr == t) = false := by simpa using h1
      rw [decide_eq_false h1]
      clear h1
      go_enter Tryz.func42, Tryz.ntmps42
      go_wp2_with fail
      go_ret
      exact ⟨rfl, Frame.alloc _ _ _⟩
  | true =>
    simp at hat; subst hat
    by_cases h1 : ds = t
    · have h2 : (ds == t) = true := by simpa using h1
      by_cases h3 : lb9 = s
      · have h4 := beq_toList_true h3
        rw [decide_eq_true h1, decide_eq_true h3]
        clear h1 h3
        go_enter Tryz.func42, Tryz.ntmps42
        go_wp2_with fail
        go_ret
        exact ⟨rfl, Frame.alloc _ _ _⟩
      · have h4 := beq_toList_false h3
        rw [decide_eq_true h1, decide_eq_false h3]
        clear h1 h3
        go_enter Tryz.func42, Tryz.ntmps42
        go_wp2_with fail
        go_ret
        exact ⟨rfl, Frame.alloc _ _ _⟩
    · have h2 : (ds == t) = false := by simpa using h1
      rw [decide_eq_false h1]
      clear h1
      go_enter Tryz.func42, Tryz.ntmps42
      go_wp2_with fail
      go_ret
      exact ⟨rfl, Frame.alloc _ _ _⟩
section
variable {U : Nat → Prop} {xb : Nat} {ns : List Nv} {es : List Ed} {given : Int} {w : World}
theorem iedges_any (h : IX U xb ns es given w) (hl : es.length ≤ 1000000) (s : ByteArray) :
    Calls Tryz.prog 18 #[.pointer (some ⟨xb, 0, none⟩), .string s] w (FreshEnd 44 4 Ed.cs (es.filter (labP s)) w) := by
  have H := Lib.hid h
  clear h
  have hmf := run_makeFunc
  go_enter Tryz.func18, Tryz.ntmps18
  go_wp2_with fail
  have bt := Blk.new w 9 #[.string s]
  have ft := Frame.alloc [] w (.cells #[.string s] 9)
  generalize w.alloc (.cells #[.string s] 9) = wa at *
  refine (only_any 43 #[.pointer (some ⟨w.heap.size, 0, none⟩)] (labP s) (H.out.frame0 ft) ⟨entered_ie, fun w' f e => iedges_fn s e _ w' ((bt.frame f (by simp)).at 0 rfl)⟩ hl).mono ?_
  rintro e w1 ⟨a, c, G, rfl, sl, f1, hG⟩
  have Q := Lib.hid (And.intro sl (And.intro (ft.trans1 f1) (fun x hx => Nat.le_trans ft.size (hG x hx))))
  clear sl f1 hG bt ft
  go_wp2_with fail
  go_ret
  exact ⟨a, c, G, rfl, Q.out.1, Q.out.2.1, Q.out.2.2⟩
theorem iout_any (h : IX U xb ns es given w) (hl : es.length ≤ 1000000) (t : Int) (s : ByteArray) (back : Bool) :
    Calls Tryz.prog 16 #[.pointer (some ⟨xb, 0, none⟩), .int .i64 t, .string s, .bool back] w (FreshEnd 44 4 Ed.cs (es.filter (outP t s back)) w) := by
  have H := Lib.hid h
  clear h
  have hmf := run_makeFunc
  go_enter Tryz.func16, Tryz.ntmps16
  go_wp2_with fail
  have b1 := ((Blk.new w 3 #[.int .i64 t]).alloc (.cells #[.string s] 9)).alloc (.cells #[.bool back] 4)
  have b2 : Blk (((w.alloc (.cells #[.int .i64 t] 3)).alloc (.cells #[.string s] 9)).alloc (.cells #[.bool back] 4)) (w.heap.size + 1) 9 #[.string s] := by
    have := (Blk.new (w.alloc (.cells #[.int .i64 t] 3)) 9 #[.string s]).alloc (.cells #[.bool back] 4)
    simpa only [World.size_alloc] using this
  have b3 : Blk (((w.alloc (.cells #[.int .i64 t] 3)).alloc (.cells #[.string s] 9)).alloc (.cells #[.bool back] 4)) (w.heap.size + 1 + 1) 4 #[.bool back] := by
    have := Blk.new ((w.alloc (.cells #[.int .i64 t] 3)).alloc (.cells #[.string s] 9)) 4 #[.bool back]
    simpa only [World.size_alloc] using this
  have ft : Frame [] w (((w.alloc (.cells #[.int .i64 t] 3)).alloc (.cells #[.string s] 9)).alloc (.cells #[.bool back] 4)) := ((Frame.alloc _ _ _).trans1 (Frame.alloc _ _ _)).trans1 (Frame.alloc _ _ _)
  generalize ((w.alloc (.cells #[.int .i64 t] 3)).alloc (.cells #[.string s] 9)).alloc (.cells #[.bool back] 4) = wa at *
  refine (only_any 42 #[.pointer (some ⟨w.heap.size + 1 + 1, 0, none⟩), .pointer (some ⟨w.heap.size, 0, none⟩), .pointer (some ⟨w.heap.size + 1, 0, none⟩)] (outP t s back) (H.out.frame0 ft) ⟨entered_io, fun w' f e => iout_fn t s back e _ _ _ w' ((b3.frame f (by simp)).at 0 rfl) ((b1.frame f (by simp)).at 0 rfl) ((b2.frame f (by simp)).at 0 rfl)⟩ hl).mono ?_
  rintro e w1 ⟨a, c, G, rfl, sl, f1, hG⟩
  have Q := Lib.hid (And.intro sl (And.intro (ft.trans1 f1) (fun x hx => Nat.le_trans ft.size (hG x hx))))
  clear sl f1 hG b1 b2 b3 ft
  go_wp2_with fail
  go_ret
  exact ⟨a, c, G, rfl, Q.out.1, Q.out.2.1, Q.out.2.2⟩
theorem icount_any (h : IX U xb ns es given w) (hl : es.length ≤ 1000000) (s : ByteArray) :
    Calls Tryz.prog 19 #[.pointer (some ⟨xb, 0, none⟩), .string s] w fun e w' => e = .returned (.int .i64 (es.filter (labP s)).length) ∧ Frame [] w w' := by
  have H := Lib.hid (iedges_any h hl s)
  clear h
  go_enter Tryz.func19, Tryz.ntmps19
  go_wp2_with fail
  refine H.out.mono ?_
  rintro e w1 ⟨a, c, G, rfl, sl, f1, hG⟩
  clear sl hG
  go_wp2_with fail
  go_ret
  exact ⟨rfl, f1⟩
end
end Go.Proofs.YtjcajidgaejhoaaGreat

namespace Go.Proofs.YtjcajidgaejhoaaGreat
open Go.RowKit
set_option linter.unusedSimpArgs false
set_option linter.unusedVariables false

set_option maxRecDepth 100000 in
theorem clone_int (a : Option Addr) (cap : Nat) (xs : List Int) (G : List Nat) (w : World) (h : Sl w 3 1 encI (.slice a xs.length cap) xs G) (hn : xs.length ≤ 1000000) :
    Calls Tryz.prog 40 #[.slice a xs.length cap] w fun e w' => ∃ a' cap' G', e = .returned (.slice a' xs.length cap') ∧ Sl w' 3 1 encI (.slice a' xs.length cap') xs G' ∧ Frame [] w w' ∧ ∀ x ∈ G', w.heap.size ≤ x := by
  rcases id h with ⟨hv, rfl, _⟩ | ⟨b, cap', hv, _, hr⟩
  · injection hv with hv1 _ hv2
    subst hv1 hv2
    clear h
    have q22 : ∀ (w : World) (a : Option Addr) (n c n' c' : Nat), (binOp .eql 37 (.slice a n c) (.slice none n' c')).run Tryz.prog w = .ok (.bool a.isNone) w := fun w a n c n' c' => Lib.run_eql_slice_nil w _ _ a n c n' c' Tryz.underlying37
    go_enter Tryz.func40, Tryz.ntmps40
    go_wp2_with fail
    go_ret
    exact ⟨none, 0, [], rfl, Sl.nil _ _ _ _, Frame.refl _ _, by simp⟩
  · injection hv with hv1 _ hv2
    subst hv1 hv2
    obtain ⟨i0, hi, hz0, hz1, hz2⟩ := info_parts infoInt
    have HI := Lib.hid (And.intro hi (And.intro hz0 (And.intro hz1 hz2)))
    obtain ⟨news, hnews⟩ : ∃ news, news = xs.flatMap encI := ⟨_, rfl⟩
    have s1 : Hid (news.length = xs.length * 1) := Lib.hid (by rw [hnews]; exact flat_len encI_len xs)
    have s2 : Hid (∀ w', Frame [] w w' → ∀ j u, news[j]? = some u → w'.cell? ((⟨b, 0, none⟩ : Addr).add j) = some u) := Lib.hid (fun w' f j u hj => by
      rw [Addr.add_lit, Nat.zero_add]
      exact (hr.frame f (by simp)).cell (by rw [← hnews]; exact hj))
    have s3 : Hid (∀ u ∈ news, u.oneCell' = true) := Lib.hid (fun u hu => by
      rw [hnews] at hu
      obtain ⟨y, _, hy⟩ := List.mem_flatMap.1 hu
      exact encI_one y u hy)
    have s4 : Hid (0 + xs.length ≤ maxLen) := Lib.hid (by unfold maxLen; omega)
    have s5 : Hid ((0 + xs.length) * 8 ≤ 140737488355328) := Lib.hid (by omega)
    have HN := Lib.hid hnews
    clear h hr hnews hi hz0 hz1 hz2
    have q22 : ∀ (w : World) (a : Option Addr) (n c n' c' : Nat), (binOp .eql 37 (.slice a n c) (.slice none n' c')).run Tryz.prog w = .ok (.bool a.isNone) w := fun w a n c n' c' => Lib.run_eql_slice_nil w _ _ a n c n' c' Tryz.underlying37
    go_enter Tryz.func40, Tryz.ntmps40
    go_wp2_with (at_builtin; refine wpList_append_own _ rfl _ _ 37 rfl w.heap.size 3 i0 _ 1 8 Tryz.underlying37 HI.out.1 HI.out.2.1 HI.out.2.2.1 HI.out.2.2.2 rfl (by decide) _ _ _ rfl (World.ownsRow_made w #[] 0 (Nat.le_refl _) (Nat.zero_le _) (by simp)) ⟨b, 0, none⟩ xs.length cap news rfl s1.out (s2.out _ (Frame.alloc _ _ _)) s3.out s4.out s5.out (by simp) ?_)
    intro v' w1 hown hgrow hnil
    go_wp2_with fail
    go_ret
    have hf : Frame [] w w1 := by
      have fa := Frame.alloc [] w (.cells #[] 3)
      refine fa.trans (Frame.of_grown (S := [w.heap.size]) hgrow (by intro k hk; simp [Value.ownBlock] at hk; simp [hk])) (by simp)
    rcases hown.2 with ⟨e, _⟩ | ⟨g, c, cur, e, hg, h1, h2, h3, h4, h5⟩
    · exact absurd e hnil
    · refine ⟨some ⟨g, 0, none⟩, c, [g], by rw [e]; simp, .inr ⟨g, c, rfl, rfl, RowAt.of_blk h1 (by omega) h3 h4 (by rw [← HN.out]; simpa using h5)⟩, hf, by simpa using hg⟩
end Go.Proofs.YtjcajidgaejhoaaGreat

namespace Go.Proofs.YtjcajidgaejhoaaGreat
open Go.RowKit
set_option linter.unusedSimpArgs false
set_option linter.unusedVariables false

section
variable {U : Nat → Prop} {xb : Nat} {ns : List Nv} {es : List Ed} {given : Int} {w : World}
theorem ids_any (h : IX U xb ns es given w) (hl : ns.length ≤ 1000000) :
    Calls Tryz.prog 13 #[.pointer (some ⟨xb, 0, none⟩)] w (FreshEnd 3 1 encI (ns.map (·.1)) w) := by
  obtain ⟨-, gb, na, nc, ea, ec, hb, -, ⟨N, hn, -⟩, -⟩ := h
  have hlen : (ns.map (·.1)).length = ns.length := List.length_map ..
  have c1 := hb.at 1 rfl
  have HC := Lib.hid (fun w' (f : Frame [] w w') => clone_int na nc (ns.map (·.1)) N w' (by rw [hlen]; exact hn.frame0 f) (by rw [hlen]; exact hl))
  rw [hlen] at HC
  have HL := Lib.hid hlen
  clear hb hn hlen
  go_enter Tryz.func13, Tryz.ntmps13
  go_wp2_with fail
  refine (HC.out _ (by (repeat first | assumption | exact Frame.refl _ _ | refine Frame.trans1 ?_ (Frame.alloc _ _ _) | refine Frame.trans1 ?_ (Frame.drew _ _) | refine Frame.trans1 ?_ (Frame.drewN _ _ _)))).mono ?_
  rintro e w1 ⟨a, c, G, rfl, sl, f1, hG⟩
  have Q := Lib.hid (And.intro sl (And.intro f1 hG))
  clear sl f1 hG c1
  go_wp2_with fail
  go_ret
  exact ⟨a, c, G, by rw [HL.out]; rfl, by rw [HL.out]; exact Q.out.1, Q.out.2.1, Q.out.2.2⟩
theorem ids_nil (w : World) : Calls Tryz.prog 13 #[.pointer none] w fun e w' => e = .returned (.slice none 0 0) ∧ Frame [] w w' := by
  go_enter Tryz.func13, Tryz.ntmps13
  go_wp2_with fail
  go_ret
  exact ⟨rfl, Frame.refl _ _⟩
end

set_option maxHeartbeats 8000000 in
set_option maxRecDepth 100000 in
theorem inew_any {w wr : World} {pb : Nat} {ns : List Nv} {es : List Ed} {given : Int} (h : VOwn w pb ns es given wr) (g : GOk ns es given) :
    Calls Tryz.prog 10 #[.pointer (some ⟨pb, 0, none⟩)] wr fun e w' => ∃ xb, e = .returned (.pointer (some ⟨xb, 0, none⟩)) ∧ IX (fun b => wr.heap.size ≤ b ∧ b < w'.heap.size) xb ns es given w' ∧ Frame [] wr w' := by
  have H := Lib.hid h
  have GK := Lib.hid g
  have l1 := g.v.len
  have l2 := g.e.len
  have HA := Lib.hid (own_all h g)
  clear h g
  have wo0 : esWo es [] = es := by unfold esWo; simp
  go_enter Tryz.func10, Tryz.ntmps10
  go_wp2_with fail
  refine HA.out.mono ?_
  clear HA
  rintro e w5 ⟨v, rfl, ⟨bn, mc, be, dc, rfl, hn, he⟩, f5⟩
  simp only at hn he
  go_wp2_with fail
  have b6 := Blk.new w5 25 #[.slice bn ns.length mc, .slice be es.length dc, .int .i64 (given + 1)]
  have f6 := f5.trans1 (Frame.alloc [] w5 (.cells #[.slice bn ns.length mc, .slice be es.length dc, .int .i64 (given + 1)] 25))
  have hn6 := hn.frame0 (Frame.alloc [] w5 (.cells #[.slice bn ns.length mc, .slice be es.length dc, .int .i64 (given + 1)] 25))
  have he6 := he.frame0 (Frame.alloc [] w5 (.cells #[.slice bn ns.length mc, .slice be es.length dc, .int .i64 (given + 1)] 25))
  generalize w5.alloc (.cells #[.slice bn ns.length mc, .slice be es.length dc, .int .i64 (given + 1)] 25) = w6 at *
  generalize w5.heap.size = ba at *
  have B6 := Lib.hid b6
  have F6 := Lib.hid f6
  have RB := Lib.hid (And.intro hn6 he6)
  clear b6 f6 f5 hn he hn6 he6
  have HW : Hid (∀ w', Frame [] w6 w' → Calls Tryz.prog 37 #[.pointer (some ⟨pb, 0, none⟩), .slice none 0 0] w' fun e w'' => ∃ qb, e = .returned (.pointer (some ⟨qb, 0, none⟩)) ∧ VOwn w' qb ns es given w'') := by
    show ∀ w', _
    intro w' f
    have := gwithout_any ((H.out.quiet F6.out).quiet f) GK.out none 0 [] (RF.nil _ _ _ _ _) (by simp)
    rw [wo0] at this
    exact this
  go_cut [4] (fun u wx => ∃ xb, u = .pointer (some ⟨xb, 0, none⟩) ∧ Hid (∃ gb F, Frame [] w6 wx ∧ w6.heap.size ≤ xb ∧ Blk wx xb 77 #[.pointer (some ⟨gb, 0, none⟩), .slice none 0 0, .slice be es.length dc] ∧ GV wx gb F ns es given ∧ (∀ x ∈ F, w6.heap.size ≤ x) ∧ xb ∉ F))
  case first =>
    have Y1 : ∀ w', Frame [] w6 w' → w'.cell? ⟨ba, 1, none⟩ = some (.slice be es.length dc) := fun w' f => (B6.out.frame f (by simp)).at 1 rfl
    go_region_held3 (fun w' => Frame [] w6 w') ((repeat first | assumption | exact Frame.refl _ _ | refine Frame.trans1 ?_ (Frame.alloc _ _ _) | refine Frame.trans1 ?_ (Frame.drew _ _) | refine Frame.trans1 ?_ (Frame.drewN _ _ _)))
      ((first
        | (go_at_call 37; refine (HW.out _ (by (repeat first | assumption | exact Frame.refl _ _ | refine Frame.trans1 ?_ (Frame.alloc _ _ _) | refine Frame.trans1 ?_ (Frame.drew _ _) | refine Frame.trans1 ?_ (Frame.drewN _ _ _)))).mono ?_; rintro e w7 ⟨gb, rfl, o7⟩; have F7 : Frame [] w6 w7 := (show Frame [] w6 _ from by (repeat first | assumption | exact Frame.refl _ _ | refine Frame.trans1 ?_ (Frame.alloc _ _ _) | refine Frame.trans1 ?_ (Frame.drew _ _) | refine Frame.trans1 ?_ (Frame.drewN _ _ _))).trans1 (VOwn.frame o7); have O7 := Lib.hid (VOwn.before (show Frame [] w6 _ from by (repeat first | assumption | exact Frame.refl _ _ | refine Frame.trans1 ?_ (Frame.alloc _ _ _) | refine Frame.trans1 ?_ (Frame.drew _ _) | refine Frame.trans1 ?_ (Frame.drewN _ _ _))) o7); clear o7)))
    all_goals
      go_wp2_with fail
      go_meet
      case rel =>
        obtain ⟨F, q1, q2, q3⟩ := O7.out
        exact ⟨_, rfl, gb, F, F7.trans1 (Frame.alloc _ _ _), F7.size, Blk.new _ _ _, q1.frame0 (Frame.alloc _ _ _), q3, fun hm => by have := q1.lt _ hm; omega⟩
  case rest =>
    obtain ⟨xb, rfl, hc⟩ := hcut
    obtain ⟨gb, F, f7, hx9, bx, gv, hF, hxF⟩ := hc.out
    have y0 := (B6.out.frame f7 (by simp)).at 0 rfl
    have HF := Lib.hid (And.intro hF hxF)
    have ST := Lib.hid (And.intro bx (And.intro gv f7))
    clear hc bx gv hF hxF f7 HW
    go_wp2_with fail
    clear y0
    go_loopw [20] (fun i wr9 => ∃ (k : Nat) (na : Option Addr) (nc : Nat) (N : List Nat), k ≤ ns.length ∧ i = .int .i64 k ∧ Hid (Blk wr9 xb 77 #[.pointer (some ⟨gb, 0, none⟩), .slice na k nc, .slice be es.length dc] ∧ Sl wr9 3 1 encI (.slice na k nc) ((ns.take k).map (·.1)) N ∧ GV wr9 gb F ns es given ∧ Frame [] w6 wr9 ∧ ∀ x ∈ N, w6.heap.size ≤ x ∧ x ∉ F ∧ x ≠ xb)) (fun i _ => ns.length - (intOf i).toNat)
    case atStart => exact ⟨0, none, 0, [], Nat.zero_le _, rfl, ST.out.1, Sl.nil _ _ _ _, ST.out.2.1, ST.out.2.2, by simp⟩
    case round =>
      rename World => wq
      obtain ⟨k, na, nc, N, hk, rfl, hR⟩ := hrel
      clear ST
      by_cases hlt : k < ns.length
      · have hk' : ns[k]? = some ns[k] := by simp [hlt]
        obtain ⟨b9, off, la, lc, pa, pc, rfl, -, k0, k1, k2, -⟩ := RB.out.1 k _ hk'
        have c0 := hR.out.2.2.2.1.cell k0 (by simp)
        have c1 := hR.out.2.2.2.1.cell k1 (by simp)
        have c2 := hR.out.2.2.2.1.cell k2 (by simp)
        have hmap : (ns.take (k + 1)).map (·.1) = (ns.take k).map (·.1) ++ [ns[k].1] := by rw [take_one' hk', List.map_append]; rfl
        generalize ns[k] = n at *
        obtain ⟨nid, nls, nps⟩ := n
        simp only at c0 c1 c2 hmap
        have HM := Lib.hid hmap
        clear k0 k1 k2 hk' hmap
        go_wp2_with fail
        have bn := Blk.new wq 41 #[.int .i64 nid, .slice la nls.length lc, .slice pa nps.length pc]
        have fn := Frame.alloc [] wq (.cells #[.int .i64 nid, .slice la nls.length lc, .slice pa nps.length pc] 41)
        have hbz := bn.lt
        generalize wq.alloc (.cells #[.int .i64 nid, .slice la nls.length lc, .slice pa nps.length pc] 41) = wy at *
        generalize wq.heap.size = b8 at *
        have BX := Lib.hid (hR.out.1.frame fn (by simp))
        have BN := Lib.hid bn
        have SL := Lib.hid (hR.out.2.1.frame0 fn)
        have GVY := Lib.hid (hR.out.2.2.1.frame0 fn)
        have FY := Lib.hid (hR.out.2.2.2.1.trans1 fn)
        have hlenk : ((ns.take k).map (·.1)).length = k := by simp; omega
        clear bn fn c0 c1 c2
        have x1 := BX.out.at 1 rfl
        have n0 := BN.out.at 0 rfl
        have x1a : ∀ o, (wy.drew.alloc o).cell? ⟨xb, 1, none⟩ = some (.slice na k nc) := fun o => (BX.out.drew.alloc o).at 1 rfl
        have x1b : ∀ o, (wy.alloc o).cell? ⟨xb, 1, none⟩ = some (.slice na k nc) := fun o => (BX.out.alloc o).at 1 rfl
        have hxN : xb ∉ N := fun hm => (hR.out.2.2.2.2 xb hm).2.2 rfl
        go_region_law (refine step_append_sl _ (by rfl) (.tmp 28) (.tmp 31) 37 (by rfl) 3 1 8 _ encI Tryz.underlying37 infoInt rfl (by omega) (.slice na k nc) ((ns.take k).map (·.1)) k hlenk N (by rfl) (SL.out.frame0 (by (repeat first | assumption | exact Frame.refl _ _ | refine Frame.trans1 ?_ (Frame.alloc _ _ _) | refine Frame.trans1 ?_ (Frame.drew _ _) | refine Frame.trans1 ?_ (Frame.drewN _ _ _)))) _ 1 1 [nid] _ (by rfl) (by first | exact Blk.new _ _ _ | exact (Blk.new _ _ _).drew) rfl rfl encI_len encI_one (by omega) (by omega) (by omega) ?_; intro b' cap' w9 sl9 f9 hb9; have f49 : Frame N wy w9 := (show Frame N wy _ from by (repeat first | assumption | exact Frame.refl _ _ | refine Frame.trans1 ?_ (Frame.alloc _ _ _) | refine Frame.trans1 ?_ (Frame.drew _ _) | refine Frame.trans1 ?_ (Frame.drewN _ _ _))).trans1 f9; have ox9 := BX.out.frame f49 hxN; have z1 := ox9.frozen 1; have q1 := ox9.at 1 rfl)
        all_goals
          have hb' : b' ∈ N ∨ wy.heap.size ≤ b' := by
            rcases hb9 with h | h
            · exact .inl h
            · right; simp at h; omega
          have hpb : xb ≠ b' := by
            rcases hb' with h | h
            · exact fun e => hxN (e ▸ h)
            · have := BX.out.lt; omega
          have b9' : Blk (w9.setCell ⟨xb, 1, none⟩ (.slice (some ⟨b', 0, none⟩) (k + 1) cap')) xb 77 #[.pointer (some ⟨gb, 0, none⟩), .slice (some ⟨b', 0, none⟩) (k + 1) cap', .slice be es.length dc] := by simpa using ox9.set 1 (.slice (some ⟨b', 0, none⟩) (k + 1) cap')
          have s9' := sl9.frame (S := [xb]) (Frame.setCell w9 ⟨xb, 1, none⟩ (.slice (some ⟨b', 0, none⟩) (k + 1) cap') (by simp)) (by simp; exact fun e => hpb e.symm)
          have f9' : Frame (xb :: N) wy (w9.setCell ⟨xb, 1, none⟩ (.slice (some ⟨b', 0, none⟩) (k + 1) cap')) := (f49.mono (fun x hx => .inl (by simp [hx]))).trans1 (Frame.setCell _ _ _ (by simp))
          have hz := FY.out.size
          have hF' : ∀ x ∈ F, x ∉ xb :: N := fun x hx hm => by
            rcases List.mem_cons.1 hm with h | h
            · subst h; exact HF.out.2 hx
            · exact (hR.out.2.2.2.2 x h).2.1 hx
          have gv' := GVY.out.frame f9' hF'
          have hb'F : b' ∉ F := fun hm => by
            rcases hb' with h | h
            · exact (hR.out.2.2.2.2 b' h).2.1 hm
            · have := GVY.out.lt b' hm; omega
          have fw := FY.out.trans f9' (fun x hx => .inr (by
            rcases List.mem_cons.1 hx with h | h
            · subst h; exact hx9
            · exact (hR.out.2.2.2.2 x h).1))
          have Q := Lib.hid (And.intro b9' (And.intro s9' (And.intro gv' (And.intro fw (show ∀ x ∈ [b'], w6.heap.size ≤ x ∧ x ∉ F ∧ x ≠ xb from fun x hx => by
            simp at hx; subst hx
            refine ⟨?_, hb'F, fun e => hpb e.symm⟩
            rcases hb' with h | h
            · exact (hR.out.2.2.2.2 x h).1
            · omega)))))
          clear x1 n0 x1a x1b gv' fw hb'F hF' b9' s9' f9' sl9 f9 f49 ox9 z1 q1 hb9
          go_wp2_with fail
          go_roundw
          case rel => exact ⟨k + 1, some ⟨b', 0, none⟩, cap', [b'], by omega, by first | rfl | go_num, Lib.hid ⟨Q.out.1, by rw [HM.out]; exact Q.out.2.1, Q.out.2.2⟩⟩
          case measure => first | (simp [intOf]; done) | (simp [intOf]; omega)
      · obtain rfl : k = ns.length := by omega
        go_wp2_with fail
        go_ret
        obtain ⟨q1, q2, q3, q4, q5⟩ := hR.out
        rw [List.take_length] at q2
        have fin := F6.out.trans1 q4
        have hz6 := F6.out.size
        have he' := (RB.out.2.frame0 q4).in_heap (fun x => by rw [ed_len]; omega)
        exact ⟨xb, rfl, ⟨⟨by omega, q1.lt⟩, gb, na, nc, be, dc, q1, ⟨F, q3, fun x hx => ⟨Nat.le_trans hz6 (HF.out.1 x hx), q3.lt x hx⟩⟩, ⟨N, q2, fun x hx => ⟨Nat.le_trans hz6 (q5 x hx).1, q2.lt x hx⟩⟩, he'.mono (fun b hb => ⟨hb.1, hb.2⟩)⟩, fin⟩
end Go.Proofs.YtjcajidgaejhoaaGreat

