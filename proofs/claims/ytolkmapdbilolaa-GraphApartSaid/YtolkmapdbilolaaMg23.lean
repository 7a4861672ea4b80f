/- The reference's Without. Arguments that are slices, as lists. The reference's Drop. -/
import Derived.Test.YtolkmapdbilolaaMg22
import Derived.Test.YtolkmapdbilolaaMg20
import Derived.ProofKit
import Derived.Deep.Slices
namespace Go.Proofs.Ytolkmapdbilolaa
open Go.RowKit
set_option linter.unusedSimpArgs false
set_option linter.unusedVariables false

/-- What is read lies in blocks that are there. -/
theorem RF.in_heap {α : Type} {U : Nat → Prop} {w : World} {sz : Nat} {enc : α → List Value} {a : Option Addr} {xs : List α} (h : RF U w sz enc a xs) (h0 : ∀ x, 0 < (enc x).length) : RF (fun b => U b ∧ b < w.heap.size) w sz enc a xs := fun k x hx => by
  obtain ⟨b, off, h1, h2, h3⟩ := h k x hx
  have hc := h3 0 ((enc x)[0]'(h0 x)) (by simp [h0 x])
  exact ⟨b, off, h1, ⟨h2, World.block_lt_of_cell? w _ hc⟩, h3⟩
theorem RN.in_heap {U : Nat → Prop} {w : World} {a : Option Addr} {ns : List Nv} (h : RN U w a ns) : RN (fun b => U b ∧ b < w.heap.size) w a ns := fun k n hn => by
  obtain ⟨b, off, la, lc, pa, pc, h1, h2, h3, h4, h5, h6, h7⟩ := h k n hn
  exact ⟨b, off, la, lc, pa, pc, h1, ⟨h2, World.block_lt_of_cell? w _ h3⟩, h3, h4, h5, h6.in_heap (fun x => by rw [encS_len]; omega), h7.in_heap (fun x => by rw [pr_len]; omega)⟩
/-- The edges without some tokens. -/
def esWo (es : List Ed) (ts : List Int) : List Ed := es.filter fun e => !decide (e.tok ∈ ts)
theorem esWo_in {es : List Ed} {ts : List Int} {k : Nat} {e : Ed} (h : es[k]? = some e) (hm : e.tok ∈ ts) : esWo (es.take (k + 1)) ts = esWo (es.take k) ts := by
  rw [take_one' h]; simp [esWo, List.filter_append, hm]
theorem esWo_out {es : List Ed} {ts : List Int} {k : Nat} {e : Ed} (h : es[k]? = some e) (hm : e.tok ∉ ts) : esWo (es.take (k + 1)) ts = esWo (es.take k) ts ++ [e] := by
  rw [take_one' h]; simp [esWo, List.filter_append, hm]
theorem esWo_len (es : List Ed) (ts : List Int) : (esWo es ts).length ≤ es.length := List.length_filter_le _ _

/-- What Without ends in: old nodes, new edges. -/
def WoEnd (U : Nat → Prop) (an : Option Addr) (nc : Nat) (x : Gx) (w : World) (e : Ending) (w' : World) : Prop := ∃ ae ec, e = .returned (.agg #[.slice an x.ns.length nc, .slice ae x.es.length ec, .int .i64 x.next]) ∧ RG (fun b => U b ∨ (w.heap.size ≤ b ∧ b < w'.heap.size)) w' (.agg #[.slice an x.ns.length nc, .slice ae x.es.length ec, .int .i64 x.next]) x ∧ Frame [] w w'
set_option maxHeartbeats 8000000 in
set_option maxRecDepth 100000 in
theorem rwithout_any (U : Nat → Prop) (an ae at9 : Option Addr) (nc ec ct : Nat) (ns : List Nv) (es : List Ed) (nx : Int) (ts : List Int) (w : World) (h1 : RN U w an ns) (h2 : RF U w 4 Ed.cs ae es) (ht : RdI w at9 ts) (hl : es.length ≤ 1000000) (hlt : ts.length ≤ 1000000) :
    Calls Try.prog 51 #[.agg #[.slice an ns.length nc, .slice ae es.length ec, .int .i64 nx], .slice at9 ts.length ct] w (WoEnd U an nc ⟨ns, esWo es ts, nx⟩ w) := by
  have H1 := Lib.hid h1
  have H2 := Lib.hid h2
  have HT := Lib.hid ht
  clear h1 h2 ht
  go_enter Try.func51, Try.ntmps51
  go_wp2_with fail
  have fr : Frame [] w ((w.alloc (.cells #[.slice an ns.length nc, .slice ae es.length ec, .int .i64 nx] 55)).alloc (.cells #[.slice none 0 0, .slice none 0 0, .int .i64 0] 55)) := (Frame.alloc _ _ _).trans1 (Frame.alloc _ _ _)
  have b0 := (Blk.new w 55 #[.slice an ns.length nc, .slice ae es.length ec, .int .i64 nx]).alloc (.cells #[.slice none 0 0, .slice none 0 0, .int .i64 0] 55)
  have b1 := Blk.new (w.alloc (.cells #[.slice an ns.length nc, .slice ae es.length ec, .int .i64 nx] 55)) 55 #[.slice none 0 0, .slice none 0 0, .int .i64 0]
  have hsz : ((w.alloc (.cells #[.slice an ns.length nc, .slice ae es.length ec, .int .i64 nx] 55)).alloc (.cells #[.slice none 0 0, .slice none 0 0, .int .i64 0] 55)).heap.size = w.heap.size + 2 := by simp
  simp only [World.size_alloc] at b1
  generalize (w.alloc (.cells #[.slice an ns.length nc, .slice ae es.length ec, .int .i64 nx] 55)).alloc (.cells #[.slice none 0 0, .slice none 0 0, .int .i64 0] 55) = wa at *
  have B := Lib.hid b0
  have B1 := Lib.hid b1
  have FR := Lib.hid fr
  have HZ := Lib.hid hsz
  clear b0 b1 fr hsz
  go_loopw [5, 6] (fun u i wr => ∃ (k : Nat) (a : Option Addr) (n c : Nat) (G : List Nat), k ≤ es.length ∧ i = .int .i64 k ∧ u = .slice a n c ∧ n ≤ k ∧ Hid (Frame [] wa wr ∧ Sl wr 49 4 Ed.cs (.slice a n c) (esWo (es.take k) ts) G ∧ (esWo (es.take k) ts).length = n ∧ ∀ x ∈ G, w.heap.size + 2 ≤ x)) (fun _ i _ => es.length - (intOf i).toNat)
  case atStart => exact ⟨0, none, 0, 0, [], Nat.zero_le _, rfl, rfl, Nat.le_refl _, Frame.refl _ _, Sl.nil _ _ _ _, rfl, by simp⟩
  case round =>
    obtain ⟨k, a, n, c, G, hk, rfl, rfl, hnk, hR⟩ := hrel
    have hb9 := B.out.frame hR.out.1 (by simp)
    have z1 := hb9.at 1 rfl
    have z9 := World.block_lt_of_cell? wr _ z1
    simp only at z9
    by_cases hlt2 : k < es.length
    · have g1 : es[k]? = some es[k] := by simp [hlt2]
      obtain ⟨b, off, rfl, -, q⟩ := ((H2.out.frame0 FR.out).frame0 hR.out.1) k _ g1
      have d0 := q 0 _ rfl
      have d1 := q 1 _ rfl
      have d2 := q 2 _ rfl
      have d3 := q 3 _ rfl
      simp only [Nat.add_zero] at d0
      generalize es[k] = ed at *
      obtain ⟨tk, sr, lb, ds⟩ := ed
      simp only at d0 d1 d2 d3
      have G1 := Lib.hid g1
      have BK := Lib.hid hb9
      clear g1 q hb9
      have D0 := Lib.hid d0
      have D1 := Lib.hid d1
      have D2 := Lib.hid d2
      have D3 := Lib.hid d3
      by_cases hin : tk ∈ ts
      · have HS : Hid (∀ w' bk, Frame [] wr w' → Blk w' bk 3 #[.int .i64 tk] → Calls Try.prog 100 #[.slice (some ⟨bk, 0, none⟩) 1 1, .slice at9 ts.length ct] w' fun e w'' => e = .returned (.bool true) ∧ Frame [] w' w'') := by
          show ∀ w' bk, _
          exact fun w' bk f hb => Ans.yes (subset_any (some ⟨bk, 0, none⟩) at9 1 ct [tk] ts w' (rd1 hb) (((HT.out.frame FR.out).frame hR.out.1).frame f) (by simp) hlt) (by simpa using hin)
        have HI := Lib.hid hin
        clear hin
        go_wp2_with fail
        refine (HS.out _ _ (Frame.alloc _ _ _) (Blk.new _ _ _)).mono ?_
        rintro e w6 ⟨rfl, f6⟩
        have F6 := Lib.hid ((Frame.alloc [] wr _).trans1 f6)
        clear f6
        go_wp2_with fail
        go_roundw
        case rel => exact ⟨k + 1, a, n, c, G, by omega, by first | rfl | go_num, rfl, by omega, Lib.hid ⟨hR.out.1.trans1 F6.out, by rw [esWo_in G1.out HI.out]; exact hR.out.2.1.frame0 F6.out, by rw [esWo_in G1.out HI.out]; exact hR.out.2.2.1, hR.out.2.2.2⟩⟩
        case measure => first | (simp [intOf]; done) | (simp [intOf]; omega)
      · have HS : Hid (∀ w' bk, Frame [] wr w' → Blk w' bk 3 #[.int .i64 tk] → Calls Try.prog 100 #[.slice (some ⟨bk, 0, none⟩) 1 1, .slice at9 ts.length ct] w' fun e w'' => e = .returned (.bool false) ∧ Frame [] w' w'') := by
          show ∀ w' bk, _
          exact fun w' bk f hb => Ans.no (subset_any (some ⟨bk, 0, none⟩) at9 1 ct [tk] ts w' (rd1 hb) (((HT.out.frame FR.out).frame hR.out.1).frame f) (by simp) hlt) (by simpa using hin)
        have HI := Lib.hid hin
        clear hin
        go_wp2_with fail
        refine (HS.out _ _ (Frame.alloc _ _ _) (Blk.new _ _ _)).mono ?_
        rintro e w6 ⟨rfl, f6⟩
        have f6' := (Frame.alloc [] wr _).trans1 f6
        have z1 := (BK.out.frame f6' (by simp)).at 1 rfl
        have d0 := f6'.cell D0.out (by simp)
        have d1 := f6'.cell D1.out (by simp)
        have d2 := f6'.cell D2.out (by simp)
        have d3 := f6'.cell D3.out (by simp)
        have F6 := Lib.hid f6'
        clear f6 f6'
        go_wp2_with (at_builtin; refine wpList_append_rf rfl (.tmp 24) (.tmp 30) 53 rfl 49 4 40 _ Ed.cs Try.underlying53 infoEdge rfl (by omega) _ (esWo (es.take k) ts) n hR.out.2.2.1 G rfl ((hR.out.2.1.frame0 F6.out).frame0 (Frame.alloc _ _ _)) (fun y => y = w6.heap.size) _ 1 1 [⟨tk, sr, lb, ds⟩] rfl (rf_one (Blk.new _ _ _) _ rfl) rfl ed_len ed_one (n + 1) rfl (by omega) (by omega) ?_; intro a7 c7 w7 G7 sl7 f7 hG7)
        have hz6 := (hR.out.1.trans1 F6.out).size
        have hza := HZ.out
        have F67 : Hid (Frame [] wa w7) := ((hR.out.1.trans1 F6.out).trans1 (Frame.alloc [] w6 _)).trans f7 (fun x hx => .inr (by have := hR.out.2.2.2 x hx; omega))
        have hg7 : ∀ x ∈ G7, w.heap.size + 2 ≤ x := fun x hx => by
          rcases hG7 x hx with h | h
          · exact hR.out.2.2.2 x h
          · simp at h; omega
        have S7 := Lib.hid (And.intro sl7 hg7)
        clear sl7 f7 hG7 hg7
        go_wp2_with fail
        go_roundw
        case rel => exact ⟨k + 1, a7, n + 1, c7, G7, by omega, by first | rfl | go_num, rfl, by omega, Lib.hid ⟨F67.out, by rw [esWo_out G1.out HI.out]; exact S7.out.1, by rw [esWo_out G1.out HI.out, List.length_append, hR.out.2.2.1]; rfl, S7.out.2⟩⟩
        case measure => first | (simp [intOf]; done) | (simp [intOf]; omega)
    · obtain rfl : k = es.length := by omega
      have hb8 := B1.out.frame hR.out.1 (by simp)
      have y1 := hb9.frozen 1
      have z0 := hb9.at 0 rfl
      have z2 := hb9.at 2 rfl
      have r0 := hb8.frozen 0
      have r1 := hb8.frozen 1
      have r2 := hb8.frozen 2
      have s0 := hb8.at 0 rfl
      have s1 := hb8.at 1 rfl
      have s2 := hb8.at 2 rfl
      have BK := Lib.hid hb9
      have BR := Lib.hid hb8
      have z8 := World.block_lt_of_cell? wr _ s0
      simp only at z8
      clear hb9 hb8
      go_wp2_with fail
      have hne : w.heap.size ≠ w.heap.size + 1 := by omega
      have hne' : w.heap.size + 1 ≠ w.heap.size := by omega
      have fe : Frame [w.heap.size, w.heap.size + 1] wr ((((wr.setCell ⟨w.heap.size, 1, none⟩ (.slice a n c)).setCell ⟨w.heap.size + 1, 0, none⟩ (.slice an ns.length nc)).setCell ⟨w.heap.size + 1, 1, none⟩ (.slice a n c)).setCell ⟨w.heap.size + 1, 2, none⟩ (.int .i64 nx)) := (((Frame.setCell _ ⟨w.heap.size, 1, none⟩ _ (by simp)).trans1 (Frame.setCell _ ⟨w.heap.size + 1, 0, none⟩ _ (by simp))).trans1 (Frame.setCell _ ⟨w.heap.size + 1, 1, none⟩ _ (by simp))).trans1 (Frame.setCell _ ⟨w.heap.size + 1, 2, none⟩ _ (by simp))
      have fw : Frame [] w wr := FR.out.trans1 hR.out.1
      have hes : (esWo es ts).length = n := by have := hR.out.2.2.1; rw [List.take_length] at this; exact this
      refine bodyPost_ret (v := .agg #[.slice an ns.length nc, .slice a n c, .int .i64 nx]) ?_ rfl ⟨a, c, by simp only; rw [hes], ⟨an, nc, a, c, rfl, ?_, ?_⟩, ?_⟩
      · have b3 := (((BR.out.set_ne (a := ⟨w.heap.size, 1, none⟩) (.slice a n c) hne').set 0 (.slice an ns.length nc)).set 1 (.slice a n c)).set 2 (.int .i64 nx)
        have x0 := b3.at 0 rfl
        have x1 := b3.at 1 rfl
        have x2 := b3.at 2 rfl
        simp [results, Try.results51, go_sem, x0, x1, x2]
      · refine RN.mono ((H1.out.in_heap.frame0 fw).frame fe (fun b hb hm => ?_)) (fun b hb => .inl hb.1)
        have := hb.2
        simp at hm; omega
      · have hs9 := hR.out.2.1
        rw [List.take_length] at hs9
        have hs8 := hs9.frame fe (fun x hx hm => by have := hR.out.2.2.2 x hx; simp at hm; omega)
        refine hs8.rf ed_len (fun x hx => .inr ⟨?_, hs8.lt x hx⟩)
        have := hR.out.2.2.2 x hx; omega
      · exact fw.trans fe (by simp)
end Go.Proofs.Ytolkmapdbilolaa

namespace Go.Proofs.Ytolkmapdbilolaa
open Go.RowKit
set_option linter.unusedSimpArgs false
set_option linter.unusedVariables false

/-- A slice of laid-out elements, as it is read. -/
def RdS {α : Type} (w : World) (sz : Nat) (enc : α → List Value) (ok : World → α → Prop) (a : Option Addr) (xs : List α) : Prop :=
  xs = [] ∨ ∃ b off, a = some ⟨b, off, none⟩ ∧ b < w.heap.size ∧ ∀ k (h : k < xs.length), (∀ j u, (enc xs[k])[j]? = some u → w.cell? ⟨b, off + k * sz + j, none⟩ = some u) ∧ ok w xs[k]

section
variable {α : Type} {w w' : World} {sz : Nat} {enc : α → List Value} {ok : World → α → Prop} {a : Option Addr} {xs : List α}
theorem RdS.frame (h : RdS w sz enc ok a xs) (f : Frame [] w w') (hok : ∀ x, ok w x → ok w' x) : RdS w' sz enc ok a xs := by
  rcases h with h | ⟨b, off, h1, h2, h3⟩
  · exact .inl h
  · exact .inr ⟨b, off, h1, Nat.lt_of_lt_of_le h2 f.size, fun k hk => ⟨fun j u hu => f.cell ((h3 k hk).1 j u hu) (by simp), hok _ (h3 k hk).2⟩⟩
theorem RdS.at (h : RdS w sz enc ok a xs) {k : Nat} (hk : k < xs.length) : ∃ b off, a = some ⟨b, off, none⟩ ∧ (∀ j u, (enc xs[k])[j]? = some u → w.cell? ⟨b, off + k * sz + j, none⟩ = some u) ∧ ok w xs[k] := by
  rcases h with h | ⟨b, off, h1, h2, h3⟩
  · subst h; simp at hk
  · exact ⟨b, off, h1, h3 k hk⟩
theorem RdS.ok_all (h : RdS w sz enc ok a xs) : ∀ x ∈ xs, ok w x := by
  intro x hx
  obtain ⟨k, hk, rfl⟩ := List.getElem_of_mem hx
  obtain ⟨_, _, _, _, h⟩ := h.at hk
  exact h
end

section
variable {H : Type} {encH : TypeId × Value → H} {P : Program} {w : World} {spare : Nat → Bool} {held : Bool}

theorem choose_list {α : Type} {n : Nat} {p : Nat → α → Prop} (h : ∀ k, k < n → ∃ x, p k x) : ∃ xs : List α, xs.length = n ∧ ∀ k (hk : k < xs.length), p k xs[k] := by
  induction n with
  | zero => exact ⟨[], rfl, fun k hk => by simp at hk⟩
  | succ n ih =>
    obtain ⟨xs, h1, h2⟩ := ih (fun k hk => h k (by omega))
    obtain ⟨x, hx⟩ := h n (by omega)
    refine ⟨xs ++ [x], by simp [h1], fun k hk => ?_⟩
    by_cases e : k < xs.length
    · rw [List.getElem_append_left e]; exact h2 k e
    · have : k = n := by simp at hk; omega
      subst this
      rw [List.getElem_append_right (by omega)]
      simpa using hx

/-- A slice that is read as data is a list of elements. -/
theorem open_list {α : Type} {t e sz fuel : Nat} {a0 : Option Addr} {len0 cap0 : Nat} {x : DataW H × List MemPlace} (enc : α → List Value) (ok : World → α → Prop) (ht : P.underlying t = some (.slice e)) (hsz : P.cellsOf e = sz) (h0 : 0 < sz)
    (elem : ∀ n cs y, DataW.trod encH P w 0 spare held n e cs = some y → ∃ z : α, cs = enc z ∧ ok w z) (h : DataW.trod encH P w 0 spare held fuel t [.slice a0 len0 cap0] = some x) :
    ∃ (xs : List α), len0 = xs.length ∧ RdS w sz enc ok a0 xs ∧ xs.length ≤ cap0 ∧ cap0 ≤ maxLen := by
  rcases Deep.open_slice ht h with ⟨hc, _⟩ | ⟨a, len, cap, m, n, D, Pl, hc, _, hl, hm, hmm, _, hx⟩
  · simp at hc
    obtain ⟨rfl, rfl, rfl⟩ := hc
    exact ⟨[], rfl, .inl rfl, by simp, by simp [maxLen]⟩
  · simp at hc
    obtain ⟨rfl, rfl, rfl⟩ := hc
    have hlm : len0 ≤ m := by rw [hmm]; split <;> omega
    rw [hsz] at hx
    obtain ⟨xs, hxl, hxs⟩ := choose_list (α := α) (n := len0) (p := fun k z => (∀ j u, (enc z)[j]? = some u → w.cell? ((a.add (k * sz)).add j) = some u) ∧ (enc z).length = sz ∧ ok w z) (fun k hk => by
      obtain ⟨cs', h1, h2⟩ := hx k (by omega)
      obtain ⟨z, rfl, hz⟩ := elem _ _ _ h2
      obtain ⟨_, hlen, hcell⟩ := World.cells?_some h1
      exact ⟨z, fun j u hu => by rw [hcell j (by have := (List.getElem?_eq_some_iff.1 hu).1; omega), hu], hlen, hz⟩)
    refine ⟨xs, hxl.symm, ?_, by omega, hm⟩
    rcases Nat.eq_zero_or_pos len0 with h1 | h1
    · left; exact List.eq_nil_of_length_eq_zero (by omega)
    · right
      obtain ⟨hc0, hl0, _⟩ := hxs 0 (by omega)
      have hne : (enc (xs[0]'(by omega)))[0]? = some ((enc (xs[0]'(by omega)))[0]'(by omega)) := by simp
      have c0 := hc0 0 _ hne
      have hsp : a.spot = none := by
        rw [Nat.zero_mul] at c0
        simp only [Addr.add, if_true] at c0
        cases hs : a.spot with
        | none => rfl
        | some s =>
          exfalso
          unfold World.cell? at c0
          split at c0
          · simp [hs] at c0
          · cases c0
      obtain ⟨b, off, sp⟩ := a
      simp at hsp; subst hsp
      refine ⟨b, off, rfl, ?_, fun k hk => ?_⟩
      · have := World.block_lt_of_cell? w _ c0
        simpa [Addr.add] using this
      · obtain ⟨q1, _, q3⟩ := hxs k hk
        refine ⟨fun j u hu => ?_, q3⟩
        have := q1 j u hu
        rwa [show ((⟨b, off, none⟩ : Addr).add (k * sz)).add j = ⟨b, off + k * sz + j, none⟩ from by
          unfold Addr.add; split <;> split <;> simp_all] at this

theorem elem_int {n e : Nat} (he : P.underlying e = some (.int .i64)) {cs : List Value} {y : DataW H × List MemPlace} (h : DataW.trod encH P w 0 spare held n e cs = some y) : ∃ z : Int, cs = [.int .i64 z] ∧ (-9223372036854775808 ≤ z ∧ z ≤ 9223372036854775807) := by
  obtain ⟨z, rfl, _, hw⟩ := DataW.trod_int he h
  refine ⟨z, rfl, ?_⟩
  simp [Lit.wf, IntKind.min, IntKind.max, IntKind.signed, IntKind.bits] at hw
  omega

def okI (_ : World) (z : Int) : Prop := -9223372036854775808 ≤ z ∧ z ≤ 9223372036854775807
theorem RdS.ints {a : Option Addr} {xs : List Int} (h : RdS w 1 (fun z => [.int .i64 z]) okI a xs) : RdI w a xs := by
  rcases h with h | ⟨b, off, h1, h2, h3⟩
  · exact .inl h
  · exact .inr ⟨b, off, h1, h2, fun k hk => by have := (h3 k hk).1 0 _ rfl; simpa using this⟩

end
end Go.Proofs.Ytolkmapdbilolaa

namespace Go.Proofs.Ytolkmapdbilolaa
open Go.RowKit
set_option linter.unusedSimpArgs false
set_option linter.unusedVariables false

theorem zn_of_rn {U : Nat → Prop} {w : World} {a : Option Addr} {ns : List Nv} (h : RN U w a ns) : ∃ zs : List Zn, zs.map Zn.v = ns ∧ RF U w 3 Zn.enc a zs ∧ ∀ z ∈ zs, z.ok U w := by
  obtain ⟨zs, hl, hz⟩ := choose_list (α := Zn) (n := ns.length) (p := fun k z => (∀ n, ns[k]? = some n → z.v = n) ∧ z.ok U w ∧ ∃ b off, a = some ⟨b, off, none⟩ ∧ U b ∧ ∀ j u, z.enc[j]? = some u → w.cell? ⟨b, off + k * 3 + j, none⟩ = some u) (fun k hk => by
    obtain ⟨b, off, la, lc, pa, pc, h1, h2, h3, h4, h5, h6, h7⟩ := h k ns[k] (by simp [hk])
    refine ⟨⟨⟨ns[k].1, la, ns[k].2.1.length, lc, pa, ns[k].2.2.length, pc⟩, ns[k].2.1, ns[k].2.2⟩, fun n hn => ?_, ⟨rfl, rfl, h6, h7⟩, b, off, h1, h2, fun j u hu => ?_⟩
    · have : ns[k] = n := by simpa [hk] using hn
      rw [← this]; rfl
    · simp only [Zn.enc, Nd.cs] at hu
      match j, hu with
      | 0, hu => simp at hu; subst hu; exact h3
      | 1, hu => simp at hu; subst hu; exact h4
      | 2, hu => simp at hu; subst hu; exact h5
      | (j + 3), hu => simp at hu)
  refine ⟨zs, List.ext_getElem? fun k => ?_, fun k z hk => ?_, fun z hm => ?_⟩
  · rw [List.getElem?_map]
    rcases Nat.lt_or_ge k zs.length with h1 | h1
    · have h2 : k < ns.length := by omega
      have := (hz k h1).1 ns[k] (by simp [h2])
      simp [h1, h2, this]
    · rw [List.getElem?_eq_none h1, List.getElem?_eq_none (by omega)]; rfl
  · obtain ⟨hk1, rfl⟩ := List.getElem?_eq_some_iff.1 hk
    exact (hz k hk1).2.2
  · obtain ⟨k, hk, rfl⟩ := List.getElem_of_mem hm
    exact (hz k hk).2.1
theorem RGv.put {w w1 w2 : World} {rb : Nat} {D : List Nat} {ns : List Nv} {es : List Ed} {next : Int} {x : Gx} {A B C : Value} (h : RGv w rb D ns es next) (f : Frame [] w w1) (rg : RG (fun b => b ∈ D ∨ (w.heap.size ≤ b ∧ b < w1.heap.size)) w1 (.agg #[A, B, C]) x) (fs : Frame [rb] w1 w2) (hb : Blk w2 rb 82 #[A, B, C]) (hcap : ∀ a n c, A = .slice a n c → n ≤ c ∧ c ≤ 9223372036854775807) : RGEnd w rb D x.ns x.es x.next w2 := by
  obtain ⟨zs0, hz0, _⟩ := h
  have hlt := hz0.lt
  obtain ⟨h1, h2, _⟩ := hz0
  obtain ⟨an, nc, ae, ec, hv, rn, rf⟩ := rg
  simp only [Value.agg.injEq, Array.mk.injEq, List.cons.injEq] at hv
  obtain ⟨rfl, rfl, rfl, -⟩ := hv
  obtain ⟨zs, hzv, hzr, hzo⟩ := zn_of_rn rn
  have hrb := hlt rb (by simp)
  have hU : ∀ b, (b ∈ D ∨ (w.heap.size ≤ b ∧ b < w1.heap.size)) → b ∉ [rb] := fun b hb9 hm => by
    simp at hm; subst hm
    rcases hb9 with h | h
    · exact h1 h
    · omega
  have hV : ∀ b, (b ∈ D ∨ (w.heap.size ≤ b ∧ b < w1.heap.size)) → b ∈ D ++ (List.range w1.heap.size).filter (fun x => decide (w.heap.size ≤ x)) := fun b hb9 => by
    simp only [List.mem_append, List.mem_filter, List.mem_range, decide_eq_true_eq]
    rcases hb9 with h | h
    · exact .inl h
    · exact .inr ⟨h.2, h.1⟩
  refine ⟨D ++ (List.range w1.heap.size).filter (fun x => decide (w.heap.size ≤ x)), ⟨zs, ⟨?_, ?_, ?_, an, nc, ae, ec, ?_, ?_, ?_, ?_⟩, hzv⟩, (f.mono (by simp)).trans1 fs, ?_⟩
  · simp only [List.mem_append, List.mem_filter, List.mem_range, decide_eq_true_eq, not_or]
    exact ⟨h1, fun hm => by omega⟩
  · intro y hy
    simp only [List.mem_append, List.mem_filter, List.mem_range, decide_eq_true_eq] at hy
    have hz := fs.size
    rcases hy with hy | hy
    · have := h2 y hy; have := f.size; omega
    · omega
  · exact fun z hm => Zn.ok_mono (Zn.ok_frame (hzo z hm) fs hU) hV
  · rw [← hzv, List.length_map] at hb; exact hb
  · exact (hzr.frame fs hU).mono hV
  · exact (rf.frame fs hU).mono hV
  · have := hcap an _ nc rfl
    rw [← hzv, List.length_map] at this; exact this
  · intro y hy
    simp only [List.mem_append, List.mem_filter, List.mem_range, decide_eq_true_eq] at hy
    rcases hy with hy | hy
    · exact .inl hy
    · exact .inr hy.2
theorem esWo_one : ∀ {es : List Ed}, Up (es.map (·.tok)) → ∀ {t : Int}, t ∈ es.map (·.tok) → esWo es [t] = es.eraseIdx (rank (es.map (·.tok)) t) := by
  intro es
  induction es with
  | nil => intro _ t ht; simp at ht
  | cons e r ih =>
    intro hu t ht
    rw [List.map_cons] at hu ht
    obtain ⟨h1, h2⟩ := List.pairwise_cons.1 hu
    by_cases het : e.tok = t
    · have hr : esWo r [t] = r := by
        unfold esWo
        rw [List.filter_eq_self]
        intro f hf
        have := h1 f.tok (List.mem_map.2 ⟨f, hf, rfl⟩)
        simp; omega
      have hk : rank ((e :: r).map (·.tok)) t = 0 := by
        refine rank_of (Nat.zero_le _) (fun i _ h => by omega) (fun i hi _ => ?_)
        cases i with
        | zero => simp; omega
        | succ i =>
          have := h1 _ (List.getElem_mem (l := r.map (·.tok)) (n := i) (by simpa using hi))
          simp at this ⊢; omega
      rw [hk]
      have : esWo (e :: r) [t] = esWo r [t] := by simp [esWo, het]
      rw [this, hr]; rfl
    · have htr : t ∈ r.map (·.tok) := by
        rcases List.mem_cons.1 ht with h | h
        · exact absurd h.symm het
        · exact h
      have hlt := h1 t htr
      have hk : rank ((e :: r).map (·.tok)) t = rank (r.map (·.tok)) t + 1 := by
        unfold rank
        rw [List.map_cons, List.countP_cons_of_pos (by simpa using hlt)]
      rw [hk]
      have : esWo (e :: r) [t] = e :: esWo r [t] := by simp [esWo, het]
      rw [this, ih h2 htr]; rfl

set_option maxHeartbeats 4000000 in
set_option maxRecDepth 100000 in
theorem rg_drop {w : World} {rb : Nat} {D : List Nat} {ns : List Nv} {es : List Ed} {next : Int} (h : RGv w rb D ns es next) (hu : Up (es.map (·.tok))) (hel : es.length ≤ 1000000) (t : Int) :
    Calls Try.prog 96 #[.pointer (some ⟨rb, 0, none⟩), .int .i64 t] w fun e w' => e = .returned (.int .i64 (vDrop es t).1) ∧ RGEnd w rb D ns (vDrop es t).2 next w' := by
  have H0 := Lib.hid h
  obtain ⟨zs, hz, hns⟩ := id h
  have hl : zs.length = ns.length := by rw [← hns, List.length_map]
  obtain ⟨-, -, m3, an, nc, ae, ec, hb, m5, hrf, hcp⟩ := hz
  rw [hl] at hb hcp
  have hrn : RN (· ∈ D) w an ns := by rw [← hns]; exact rn_of_zn m5 m3
  have HCP := Lib.hid hcp
  clear m3 m5 hns hl hcp
  have HB := Lib.hid hb
  have HN := Lib.hid hrn
  have HE := Lib.hid hrf
  have HED := Lib.hid (redge_any (· ∈ D) an ae ns.length nc ec es next t w hrf hel)
  have c0 := hb.at 0 rfl
  have c1 := hb.at 1 rfl
  have c2 := hb.at 2 rfl
  clear hb hrn hrf
  by_cases ht : t ∈ es.map (·.tok)
  case neg =>
    have e : vDrop es t = (8, es) := by unfold vDrop; rw [if_pos ht]
    rw [e]
    have hn : edOf es t = none := by
      cases hq : edOf es t with
      | none => rfl
      | some e => exact absurd (edOf_some.1 ⟨e, hq⟩) ht
    have HED' : Hid (Calls Try.prog 46 #[.agg #[.slice an ns.length nc, .slice ae es.length ec, .int .i64 next], .int .i64 t] w fun e w' => e = .returned (.tuple #[.agg #[.int .i64 0, .int .i64 0, .string ⟨#[]⟩, .int .i64 0], .bool false]) ∧ Frame [] w w') := by
      have := HED.out; rw [hn] at this; exact this
    clear e hn ht hu HED
    go_enter Try.func96, Try.ntmps96
    go_wp2_with fail
    refine HED'.out.mono ?_
    rintro e w3 ⟨rfl, f3⟩
    have F3 := Lib.hid f3
    clear f3
    go_wp2_with fail
    go_ret
    exact ⟨rfl, RGEnd.quiet H0.out (F3.out.trans1 (by (repeat first | assumption | exact Frame.refl _ _ | refine Frame.trans1 ?_ (Frame.alloc _ _ _) | refine Frame.trans1 ?_ (Frame.drew _ _) | refine Frame.trans1 ?_ (Frame.drewN _ _ _))))⟩
  have e : vDrop es t = (0, es.eraseIdx (rank (es.map (·.tok)) t)) := by unfold vDrop; rw [if_neg (by simpa using ht)]
  rw [e, ← esWo_one hu ht]
  obtain ⟨ed, hed⟩ := edOf_some.2 ht
  have HED' : Hid (Calls Try.prog 46 #[.agg #[.slice an ns.length nc, .slice ae es.length ec, .int .i64 next], .int .i64 t] w fun e w' => e = .returned (.tuple #[.agg #[.int .i64 ed.tok, .int .i64 ed.src, .string ed.lab, .int .i64 ed.dst], .bool true]) ∧ Frame [] w w') := by
    have := HED.out; rw [hed] at this; exact this
  clear e hed ht hu HED
  go_enter Try.func96, Try.ntmps96
  go_wp2_with fail
  refine HED'.out.mono ?_
  rintro e w3 ⟨rfl, f3⟩
  have hb3 := HB.out.frame f3 (by simp)
  have d0 := hb3.at 0 rfl
  have d1 := hb3.at 1 rfl
  have d2 := hb3.at 2 rfl
  have d9 := hb3.lt
  have F3 := Lib.hid f3
  have HB3 := Lib.hid hb3
  clear f3 hb3 c0 c1 c2
  go_wp2_with fail
  have fz : Frame [] w3 ((w3.alloc (.cells #[.int .i64 ed.tok, .int .i64 ed.src, .string ed.lab, .int .i64 ed.dst] 49)).alloc (.cells #[.int .i64 t] 3)) := (Frame.alloc _ _ _).trans1 (Frame.alloc _ _ _)
  have bt := Blk.new (w3.alloc (.cells #[.int .i64 ed.tok, .int .i64 ed.src, .string ed.lab, .int .i64 ed.dst] 49)) 3 #[.int .i64 t]
  simp only [World.size_alloc] at bt
  generalize (w3.alloc (.cells #[.int .i64 ed.tok, .int .i64 ed.src, .string ed.lab, .int .i64 ed.dst] 49)).alloc (.cells #[.int .i64 t] 3) = wz at *
  have fw := F3.out.trans1 fz
  refine (rwithout_any (· ∈ D) an ae _ nc ec 1 ns es next [t] wz (HN.out.frame0 fw) (HE.out.frame0 fw) (rd1 bt) hel (by simp)).mono ?_
  rintro e w5 ⟨ae5, ec5, rfl, ⟨an9, nc9, ae9, ec9, hv9, rn5, rf5⟩, f5⟩
  simp only [Value.agg.injEq, Array.mk.injEq, List.cons.injEq, Value.slice.injEq] at hv9
  obtain ⟨⟨rfl, -, rfl⟩, ⟨rfl, -, rfl⟩, -⟩ := hv9
  have hb5 := HB3.out.frame (fz.trans1 f5) (by simp)
  have g0 := hb5.at 0 rfl
  have g1 := hb5.at 1 rfl
  have g2 := hb5.at 2 rfl
  have r0 := hb5.frozen 0
  have r1 := hb5.frozen 1
  have r2 := hb5.frozen 2
  have hzz := fw.size
  have RG5 : Hid (RG (fun b => b ∈ D ∨ (w.heap.size ≤ b ∧ b < w5.heap.size)) w5 (.agg #[.slice an ns.length nc, .slice ae5 (esWo es [t]).length ec5, .int .i64 next]) ⟨ns, esWo es [t], next⟩) := by
    show RG _ _ _ _
    refine ⟨an, nc, ae5, ec5, rfl, rn5.mono (fun b hb => ?_), rf5.mono (fun b hb => ?_)⟩
    · rcases hb with h | h
      · exact .inl h
      · exact .inr ⟨by omega, h.2⟩
    · rcases hb with h | h
      · exact .inl h
      · exact .inr ⟨by omega, h.2⟩
  have HB5 := Lib.hid hb5
  have FW := Lib.hid (fw.trans1 f5)
  clear rn5 rf5 f5 fw fz bt hb5 d0 d1 d2 d9 HB3
  go_wp2_with fail
  go_ret
  refine ⟨rfl, RGv.put H0.out FW.out RG5.out (((Frame.setCell _ ⟨rb, 0, none⟩ _ (by simp)).trans1 (Frame.setCell _ ⟨rb, 1, none⟩ _ (by simp))).trans1 (Frame.setCell _ ⟨rb, 2, none⟩ _ (by simp))) ?_ (fun a n c e => by injection e with _ e2 e3; subst e2 e3; exact HCP.out)⟩
  have := ((HB5.out.set 0 (.slice an ns.length nc)).set 1 (.slice ae5 (esWo es [t]).length ec5)).set 2 (.int .i64 next)
  simpa using this
end Go.Proofs.Ytolkmapdbilolaa

