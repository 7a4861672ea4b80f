/- The index: what it holds, and its edges. The index: Out, Edges, Count. -/
import Derived.Test.YtjcajidgaejhoaaMi45
namespace Go.Proofs.Ytjcajidgaejhoaa
open Go.RowKit
set_option linter.unusedSimpArgs false
set_option linter.unusedVariables false

/-- An index at block xb: its graph, its nodes' numbers, its edges; read in blocks of U. -/
def IX (U : Nat → Prop) (xb : Nat) (ns : List Nv) (es : List Ed) (given : Int) (w : World) : Prop :=
  U xb ∧ ∃ gb na nc ea ec, Blk w xb 59 #[.pointer (some ⟨gb, 0, none⟩), .slice na ns.length nc, .slice ea es.length ec] ∧ (∃ F, GV w gb F ns es given ∧ ∀ x ∈ F, U x) ∧ (∃ N, Sl w 3 1 encI (.slice na ns.length nc) (ns.map (·.1)) N ∧ ∀ x ∈ N, U x) ∧ RF U w 4 Ed.cs ea es
theorem IX.frame {U : Nat → Prop} {xb : Nat} {ns : List Nv} {es : List Ed} {given : Int} {w w' : World} {S : List Nat} (h : IX U xb ns es given w) (f : Frame S w w') (hS : ∀ b, U b → b ∉ S) : IX U xb ns es given w' := by
  obtain ⟨h0, gb, na, nc, ea, ec, h1, ⟨F, h2, h3⟩, ⟨N, h4, h6⟩, h5⟩ := h
  exact ⟨h0, gb, na, nc, ea, ec, h1.frame f (hS _ h0), ⟨F, h2.frame f (fun x hx => hS x (h3 x hx)), h3⟩, ⟨N, h4.frame f (fun x hx => hS x (h6 x hx)), h6⟩, h5.frame f hS⟩
theorem IX.frame0 {U : Nat → Prop} {xb : Nat} {ns : List Nv} {es : List Ed} {given : Int} {w w' : World} (h : IX U xb ns es given w) (f : Frame [] w w') : IX U xb ns es given w' := h.frame f (by simp)
theorem Blk.fresh {w : World} {T : TypeId} {cs : Array Value} {b : Nat} (h : b = w.heap.size) : Blk (w.alloc (.cells cs T)) b T cs := by subst h; exact Blk.new _ _ _
/-- A new slice. -/
def FreshEnd {α : Type} (T sz : Nat) (enc : α → List Value) (xs : List α) (w : World) (e : Ending) (w' : World) : Prop := ∃ a c G, e = .returned (.slice a xs.length c) ∧ Sl w' T sz enc (.slice a xs.length c) xs G ∧ Frame [] w w' ∧ ∀ x ∈ G, w.heap.size ≤ x
theorem FreshEnd.behind {α : Type} {T sz : Nat} {enc : α → List Value} {xs : List α} {w w1 w' : World} {e : Ending} (f : Frame [] w w1) (h : FreshEnd T sz enc xs w1 e w') : FreshEnd T sz enc xs w e w' := by
  obtain ⟨a, c, G, h1, h2, h3, h4⟩ := h
  exact ⟨a, c, G, h1, h2, f.trans1 h3, fun x hx => Nat.le_trans f.size (h4 x hx)⟩
theorem filter_in {α : Type} {p : α → Bool} {xs : List α} {k : Nat} {x : α} (h : xs[k]? = some x) (hp : p x = true) : (xs.take (k + 1)).filter p = (xs.take k).filter p ++ [x] := by
  rw [take_one' h, List.filter_append]; simp [hp]
theorem filter_out {α : Type} {p : α → Bool} {xs : List α} {k : Nat} {x : α} (h : xs[k]? = some x) (hp : p x = false) : (xs.take (k + 1)).filter p = (xs.take k).filter p := by
  rw [take_one' h, List.filter_append]; simp [hp]

set_option maxHeartbeats 8000000 in
set_option maxRecDepth 100000 in
theorem only_any {U : Nat → Prop} {xb : Nat} {ns : List Nv} {es : List Ed} {given : Int} {w : World} (K : Nat) (caps : Array Value) (p : Ed → Bool) (h : IX U xb ns es given w) (hp : TellsE w K caps p) (hl : es.length ≤ 1000000) :
    Calls Try.prog 23 #[.pointer (some ⟨xb, 0, none⟩), .func (.func K) #[] caps] w (FreshEnd 43 4 Ed.cs (es.filter p) w) := by
  obtain ⟨-, gb, na, nc, ea, ec, hb, -, -, he⟩ := h
  obtain ⟨eg, hp⟩ := hp
  have HP := Lib.hid hp
  have HE := Lib.hid he
  have HB := Lib.hid hb
  clear he hp
  have c2 := hb.at 2 rfl
  clear hb
  go_enter Try.func23, Try.ntmps23
  go_wp2_with fail
  clear c2
  go_loopw [4, 14] (fun u i wr => ∃ (k : Nat) (a : Option Addr) (n c : Nat) (G : List Nat), k ≤ es.length ∧ i = .int .i64 k ∧ u = .slice a n c ∧ n ≤ k ∧ Hid (Frame [] w wr ∧ Sl wr 43 4 Ed.cs (.slice a n c) ((es.take k).filter p) G ∧ ((es.take k).filter p).length = n ∧ ∀ x ∈ G, w.heap.size ≤ x)) (fun _ i _ => es.length - (intOf i).toNat)
  case atStart => exact ⟨0, none, 0, 0, [], Nat.zero_le _, rfl, rfl, Nat.le_refl _, Frame.refl _ _, Sl.nil _ _ _ _, rfl, by simp⟩
  case round =>
    obtain ⟨k, a, n, c, G, hk, rfl, rfl, hnk, hR⟩ := hrel
    by_cases hlt : k < es.length
    · have g1 : es[k]? = some es[k] := by simp [hlt]
      obtain ⟨b, off, rfl, -, q⟩ := (HE.out.frame0 hR.out.1) k _ g1
      have d0 := q 0 _ rfl
      have d1 := q 1 _ rfl
      have d2 := q 2 _ rfl
      have d3 := q 3 _ rfl
      simp only [Nat.add_zero] at d0
      generalize es[k] = ed at *
      have HP1 := Lib.hid (fun w' (f : Frame [] wr w') => HP.out w' (hR.out.1.trans1 f) ed)
      obtain ⟨r, hr⟩ : ∃ r, p ed = r := ⟨_, rfl⟩
      rw [hr] at HP1
      have HPR := Lib.hid hr
      obtain ⟨tk, sr, lb, ds⟩ := ed
      simp only at d0 d1 d2 d3
      have G1 := Lib.hid g1
      have hcall := eg (#[.agg #[.int .i64 tk, .int .i64 sr, .string lb, .int .i64 ds]] ++ caps)
      clear g1 q hr
      go_wp2_with fail
      have b6 := Blk.new wr 43 #[.int .i64 tk, .int .i64 sr, .string lb, .int .i64 ds]
      have f6 := Frame.alloc [] wr (.cells #[.int .i64 tk, .int .i64 sr, .string lb, .int .i64 ds] 43)
      generalize wr.alloc (.cells #[.int .i64 tk, .int .i64 sr, .string lb, .int .i64 ds] 43) = w6 at *
      generalize wr.heap.size = b9 at *
      have B6 := Lib.hid b6
      have F6 := Lib.hid f6
      clear d0 d1 d2 d3 b6 f6
      have e0 := B6.out.at 0 rfl
      have e1 := B6.out.at 1 rfl
      have e2 := B6.out.at 2 rfl
      have e3 := B6.out.at 3 rfl
      clear hcall
      refine (HP1.out _ F6.out).mono ?_
      clear HP1
      rintro e w7 ⟨rfl, f7⟩
      have F7 := Lib.hid (F6.out.trans1 f7)
      have B7 := Lib.hid (B6.out.frame f7 (by simp))
      clear e0 e1 e2 e3 f7 B6
      cases r with
      | false =>
        go_wp2_with fail
        go_roundw
        case rel => exact ⟨k + 1, a, n, c, G, by omega, by first | rfl | go_num, rfl, by omega, Lib.hid ⟨hR.out.1.trans1 F7.out, by rw [filter_out G1.out HPR.out]; exact hR.out.2.1.frame0 F7.out, by rw [filter_out G1.out HPR.out]; exact hR.out.2.2.1, hR.out.2.2.2⟩⟩
        case measure => first | (simp [intOf]; done) | (simp [intOf]; omega)
      | true =>
        have e0 := B7.out.at 0 rfl
        have e1 := B7.out.at 1 rfl
        have e2 := B7.out.at 2 rfl
        have e3 := B7.out.at 3 rfl
        go_wp2_with (at_builtin; refine wpList_append_rf rfl (.tmp 21) (.tmp 23) 23 rfl 43 4 40 _ Ed.cs Try.underlying23 infoEdge rfl (by omega) _ ((es.take k).filter p) n hR.out.2.2.1 G rfl ((hR.out.2.1.frame0 F7.out).frame0 (Frame.alloc _ _ _)) (fun y => y = w7.heap.size) _ 1 1 [⟨tk, sr, lb, ds⟩] rfl (rf_one (Blk.new _ _ _) _ rfl) rfl ed_len ed_one (n + 1) rfl (by omega) (by omega) ?_; intro a8 c8 w8 G8 sl8 f8 hG8)
        have hz := (hR.out.1.trans1 F7.out).size
        have F8 : Hid (Frame [] w w8) := ((hR.out.1.trans1 F7.out).trans1 (Frame.alloc [] w7 _)).trans f8 (fun x hx => .inr (hR.out.2.2.2 x hx))
        have hg8 : ∀ x ∈ G8, w.heap.size ≤ x := fun x hx => by
          rcases hG8 x hx with h | h
          · exact hR.out.2.2.2 x h
          · simp at h; omega
        have S8 := Lib.hid (And.intro sl8 hg8)
        clear sl8 f8 hG8 hg8 e0 e1 e2 e3
        go_wp2_with fail
        go_roundw
        case rel => exact ⟨k + 1, a8, n + 1, c8, G8, by omega, by first | rfl | go_num, rfl, by omega, Lib.hid ⟨F8.out, by rw [filter_in G1.out HPR.out]; exact S8.out.1, by rw [filter_in G1.out HPR.out, List.length_append, hR.out.2.2.1]; rfl, S8.out.2⟩⟩
        case measure => first | (simp [intOf]; done) | (simp [intOf]; omega)
    · obtain rfl : k = es.length := by omega
      go_wp2_with fail
      go_ret
      have hR' := hR.out
      rw [List.take_length] at hR'
      obtain ⟨q1, q2, rfl, q4⟩ := hR'
      exact ⟨a, c, G, rfl, q2, q1, q4⟩
end Go.Proofs.Ytjcajidgaejhoaa

namespace Go.Proofs.Ytjcajidgaejhoaa
open Go.RowKit
set_option linter.unusedSimpArgs false
set_option linter.unusedVariables false

theorem entered_ie : Entered 48 := by intro args w; simp [go_sem]
theorem entered_io : Entered 28 := by intro args w; simp [go_sem]
/-- The edges with a label. -/
def labP (s : ByteArray) (e : Ed) : Bool := decide (e.lab = s)
/-- The edges at a node. -/
def outP (t : Int) (s : ByteArray) (back : Bool) (e : Ed) : Bool := decide ((if back = true then e.dst else e.src) = t) && decide (e.lab = s)
theorem iedges_fn (s : ByteArray) (e : Ed) (cb : Nat) (w : World) (hc : w.cell? ⟨cb, 0, none⟩ = some (.string s)) :
    Calls Try.prog 48 #[.agg #[.int .i64 e.tok, .int .i64 e.src, .string e.lab, .int .i64 e.dst], .pointer (some ⟨cb, 0, none⟩)] w fun x w' => x = .returned (.bool (labP s e)) ∧ Frame [] w w' := by
  have hcb := World.block_lt_of_cell? w _ hc
  have hcn : ∀ o, (w.alloc o).cell? ⟨cb, 0, none⟩ = some (.string s) := fun o => (Frame.alloc [] w o).cell hc (by simp)
  clear hc
  by_cases h1 : e.lab = s
  · have e1 : labP s e = true := by simp [labP, h1]
    have h2 := beq_toList_true h1
    rw [e1]
    clear e1 h1
    go_enter Try.func48, Try.ntmps48
    go_wp2_with fail
    go_ret
    exact ⟨rfl, Frame.alloc _ _ _⟩
  · have e1 : labP s e = false := by simp [labP, h1]
    have h2 := beq_toList_false h1
    rw [e1]
    clear e1 h1
    go_enter Try.func48, Try.ntmps48
    go_wp2_with fail
    go_ret
    exact ⟨rfl, Frame.alloc _ _ _⟩
theorem iout_fn (t : Int) (s : ByteArray) (back : Bool) (e : Ed) (kb ib lb : Nat) (w : World) (hk : w.cell? ⟨kb, 0, none⟩ = some (.bool back)) (hi : w.cell? ⟨ib, 0, none⟩ = some (.int .i64 t)) (hl : w.cell? ⟨lb, 0, none⟩ = some (.string s)) :
    Calls Try.prog 28 #[.agg #[.int .i64 e.tok, .int .i64 e.src, .string e.lab, .int .i64 e.dst], .pointer (some ⟨kb, 0, none⟩), .pointer (some ⟨ib, 0, none⟩), .pointer (some ⟨lb, 0, none⟩)] w fun x w' => x = .returned (.bool (outP t s back e)) ∧ Frame [] w w' := by
  have hk1 : ∀ o, (w.alloc o).cell? ⟨kb, 0, none⟩ = some (.bool back) := fun o => (Frame.alloc [] w o).cell hk (by simp)
  have hi1 : ∀ o, (w.alloc o).cell? ⟨ib, 0, none⟩ = some (.int .i64 t) := fun o => (Frame.alloc [] w o).cell hi (by simp)
  have hl1 : ∀ o, (w.alloc o).cell? ⟨lb, 0, none⟩ = some (.string s) := fun o => (Frame.alloc [] w o).cell hl (by simp)
  clear hk hi hl
  obtain ⟨at9, hat⟩ : ∃ x, (if back = true then e.dst else e.src) = x := ⟨_, rfl⟩
  obtain ⟨tk, sr, lb9, ds⟩ := e
  simp only at hat
  unfold outP
  simp only [hat]
  cases back with
  | false =>
    simp at hat; subst hat
    by_cases h1 : sr = t
    · have h2 : (sr == t) = true := by simpa using h1
      by_cases h3 : lb9 = s
      · have h4 := beq_toList_true h3
        rw [decide_eq_true h1, decide_eq_true h3]
        clear h1 h3
        go_enter Try.func28, Try.ntmps28
        go_wp2_with fail
        go_ret
        exact ⟨rfl, Frame.alloc _ _ _⟩
      · have h4 := beq_toList_false h3
        rw [decide_eq_true h1, decide_eq_false h3]
        clear h1 h3
        go_enter Try.func28, Try.ntmps28
        go_wp2_with fail
        go_ret
        exact ⟨rfl, Frame.alloc _ _ _⟩
    · have h2 : (sr == t) = false := by simpa using h1
      rw [decide_eq_false h1]
      clear h1
      go_enter Try.func28, Try.ntmps28
      go_wp2_with fail
      go_ret
      exact ⟨rfl, Frame.alloc _ _ _⟩
  | true =>
    simp at hat; subst hat
    by_cases h1 : ds = t
    · have h2 : (ds == t) = true := by simpa using h1
      by_cases h3 : lb9 = s
      · have h4 := beq_toList_true h3
        rw [decide_eq_true h1, decide_eq_true h3]
        clear h1 h3
        go_enter Try.func28, Try.ntmps28
        go_wp2_with fail
        go_ret
        exact ⟨rfl, Frame.alloc _ _ _⟩
      · have h4 := beq_toList_false h3
        rw [decide_eq_true h1, decide_eq_false h3]
        clear h1 h3
        go_enter Try.func28, Try.ntmps28
        go_wp2_with fail
        go_ret
        exact ⟨rfl, Frame.alloc _ _ _⟩
    · have h2 : (ds == t) = false := by simpa using h1
      rw [decide_eq_false h1]
      clear h1
      go_enter Try.func28, Try.ntmps28
      go_wp2_with fail
      go_ret
      exact ⟨rfl, Frame.alloc _ _ _⟩
section
variable {U : Nat → Prop} {xb : Nat} {ns : List Nv} {es : List Ed} {given : Int} {w : World}
theorem iedges_any (h : IX U xb ns es given w) (hl : es.length ≤ 1000000) (s : ByteArray) :
    Calls Try.prog 27 #[.pointer (some ⟨xb, 0, none⟩), .string s] w (FreshEnd 43 4 Ed.cs (es.filter (labP s)) w) := by
  have H := Lib.hid h
  clear h
  have hmf := run_makeFunc
  go_enter Try.func27, Try.ntmps27
  go_wp2_with fail
  have bt := Blk.new w 9 #[.string s]
  have ft := Frame.alloc [] w (.cells #[.string s] 9)
  generalize w.alloc (.cells #[.string s] 9) = wa at *
  refine (only_any 48 #[.pointer (some ⟨w.heap.size, 0, none⟩)] (labP s) (H.out.frame0 ft) ⟨entered_ie, fun w' f e => iedges_fn s e _ w' ((bt.frame f (by simp)).at 0 rfl)⟩ hl).mono ?_
  rintro e w1 ⟨a, c, G, rfl, sl, f1, hG⟩
  have Q := Lib.hid (And.intro sl (And.intro (ft.trans1 f1) (fun x hx => Nat.le_trans ft.size (hG x hx))))
  clear sl f1 hG bt ft
  go_wp2_with fail
  go_ret
  exact ⟨a, c, G, rfl, Q.out.1, Q.out.2.1, Q.out.2.2⟩
theorem iout_any (h : IX U xb ns es given w) (hl : es.length ≤ 1000000) (t : Int) (s : ByteArray) (back : Bool) :
    Calls Try.prog 11 #[.pointer (some ⟨xb, 0, none⟩), .int .i64 t, .string s, .bool back] w (FreshEnd 43 4 Ed.cs (es.filter (outP t s back)) w) := by
  have H := Lib.hid h
  clear h
  have hmf := run_makeFunc
  go_enter Try.func11, Try.ntmps11
  go_wp2_with fail
  have b1 := ((Blk.new w 3 #[.int .i64 t]).alloc (.cells #[.string s] 9)).alloc (.cells #[.bool back] 4)
  have b2 : Blk (((w.alloc (.cells #[.int .i64 t] 3)).alloc (.cells #[.string s] 9)).alloc (.cells #[.bool back] 4)) (w.heap.size + 1) 9 #[.string s] := by
    have := (Blk.new (w.alloc (.cells #[.int .i64 t] 3)) 9 #[.string s]).alloc (.cells #[.bool back] 4)
    simpa only [World.size_alloc] using this
  have b3 : Blk (((w.alloc (.cells #[.int .i64 t] 3)).alloc (.cells #[.string s] 9)).alloc (.cells #[.bool back] 4)) (w.heap.size + 1 + 1) 4 #[.bool back] := by
    have := Blk.new ((w.alloc (.cells #[.int .i64 t] 3)).alloc (.cells #[.string s] 9)) 4 #[.bool back]
    simpa only [World.size_alloc] using this
  have ft : Frame [] w (((w.alloc (.cells #[.int .i64 t] 3)).alloc (.cells #[.string s] 9)).alloc (.cells #[.bool back] 4)) := ((Frame.alloc _ _ _).trans1 (Frame.alloc _ _ _)).trans1 (Frame.alloc _ _ _)
  generalize ((w.alloc (.cells #[.int .i64 t] 3)).alloc (.cells #[.string s] 9)).alloc (.cells #[.bool back] 4) = wa at *
  refine (only_any 28 #[.pointer (some ⟨w.heap.size + 1 + 1, 0, none⟩), .pointer (some ⟨w.heap.size, 0, none⟩), .pointer (some ⟨w.heap.size + 1, 0, none⟩)] (outP t s back) (H.out.frame0 ft) ⟨entered_io, fun w' f e => iout_fn t s back e _ _ _ w' ((b3.frame f (by simp)).at 0 rfl) ((b1.frame f (by simp)).at 0 rfl) ((b2.frame f (by simp)).at 0 rfl)⟩ hl).mono ?_
  rintro e w1 ⟨a, c, G, rfl, sl, f1, hG⟩
  have Q := Lib.hid (And.intro sl (And.intro (ft.trans1 f1) (fun x hx => Nat.le_trans ft.size (hG x hx))))
  clear sl f1 hG b1 b2 b3 ft
  go_wp2_with fail
  go_ret
  exact ⟨a, c, G, rfl, Q.out.1, Q.out.2.1, Q.out.2.2⟩
theorem icount_any (h : IX U xb ns es given w) (hl : es.length ≤ 1000000) (s : ByteArray) :
    Calls Try.prog 10 #[.pointer (some ⟨xb, 0, none⟩), .string s] w fun e w' => e = .returned (.int .i64 (es.filter (labP s)).length) ∧ Frame [] w w' := by
  have H := Lib.hid (iedges_any h hl s)
  clear h
  go_enter Try.func10, Try.ntmps10
  go_wp2_with fail
  refine H.out.mono ?_
  rintro e w1 ⟨a, c, G, rfl, sl, f1, hG⟩
  clear sl hG
  go_wp2_with fail
  go_ret
  exact ⟨rfl, f1⟩
end
end Go.Proofs.Ytjcajidgaejhoaa

