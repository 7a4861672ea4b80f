/- The index: Has; two lists of edges; the reference's Out. (printed by gen_idx5.py) The index of nothing; the nodes with a label, as tansylaw12 tells them; an index beside a graph that changes. -/
import Derived.Test.YtjcajidgaejhoaaGreatMi40
import Derived.BigQuiet
import Derived.Test.YtjcajidgaejhoaaGreatMi41
import Derived.Test.YtjcajidgaejhoaaGreatMi33
namespace Go.Proofs.YtjcajidgaejhoaaGreat
open Go.RowKit
set_option linter.unusedSimpArgs false
set_option linter.unusedVariables false

theorem nodeOf_le {ns : List Nv} (h : VOk ns) (t : Int) : (nodeOf ns t).1.2.1.length ≤ 8 ∧ (nodeOf ns t).1.2.2.length ≤ 8 := by
  unfold nodeOf
  split
  · split
    · rename_i n hn
      have hm := List.mem_of_getElem? hn
      exact ⟨(h.ls n hm).2, (h.ps n hm).2⟩
    · simp
  · simp
set_option maxHeartbeats 4000000 in
set_option maxRecDepth 100000 in
theorem edges12_same (U1 U2 : Nat → Prop) (a1 a2 : Option Addr) (c1 c2 : Nat) (es : List Ed) (w : World) (h1 : RF U1 w 4 Ed.cs a1 es) (h2 : RF U2 w 4 Ed.cs a2 es) (hl : es.length ≤ 1000000) :
    Calls Tryz.prog 15 #[.slice a1 es.length c1, .slice a2 es.length c2] w fun e w' => e = .returned (.bool true) ∧ Frame [] w w' := by
  have H1 := Lib.hid h1
  have H2 := Lib.hid h2
  clear h1 h2
  go_enter Tryz.func15, Tryz.ntmps15
  go_wp2_with fail
  go_loopw [5] (fun i wr => ∃ k : Nat, k ≤ es.length ∧ i = .int .i64 k ∧ Hid (Frame [] w wr)) (fun i _ => es.length - (intOf i).toNat)
  case atStart => exact ⟨0, Nat.zero_le _, rfl, Lib.hid (Frame.refl _ _)⟩
  case round =>
    obtain ⟨k, hk, rfl, hR⟩ := hrel
    by_cases hlt : k < es.length
    · have g1 : es[k]? = some es[k] := by simp [hlt]
      obtain ⟨p1, o1, rfl, -, c1⟩ := (H1.out.frame0 hR.out) k _ g1
      obtain ⟨p2, o2, rfl, -, c2⟩ := (H2.out.frame0 hR.out) k _ g1
      have x0 := c1 0 _ rfl
      have x1 := c1 1 _ rfl
      have x2 := c1 2 _ rfl
      have x3 := c1 3 _ rfl
      have t0 := c2 0 _ rfl
      have t1 := c2 1 _ rfl
      have t2 := c2 2 _ rfl
      have t3 := c2 3 _ rfl
      simp only [Nat.add_zero] at x0 t0
      generalize es[k] = a at *
      clear c1 c2 g1
      have Q' : Hid (∀ n, (binOp .neq 44 (.agg #[.int .i64 a.tok, .int .i64 a.src, .string a.lab, .int .i64 a.dst]) (.agg #[.int .i64 a.tok, .int .i64 a.src, .string a.lab, .int .i64 a.dst])).run Tryz.prog (wr.drewN n) = .ok (.bool false) (wr.drewN n)) := by
        show ∀ n, _
        intro n
        have := neq_edge a a (wr.drewN n)
        simpa [Ed.v] using this
      go_wp2_with fail
      refine wp_region_quiet_lit (by kernel_rfl) (by kernel_rfl) ?_
      iterate 8 (go_big_quiet_step (fail))
      go_big_quiet_want
      refine quiet_bin .neq 44 44 (.tmp 20) (.tmp 24) (.agg #[.int .i64 a.tok, .int .i64 a.src, .string a.lab, .int .i64 a.dst]) (.agg #[.int .i64 a.tok, .int .i64 a.src, .string a.lab, .int .i64 a.dst]) (.bool false) rfl rfl rfl (fun w => guard_edge _ _ _ _ _ w) ?_ ?_
      · rintro _ ⟨n, rfl⟩; exact Q'.out n
      go_big_quiet_on
      refine wpQuiet_nil ?_
      intro _ hw'
      obtain ⟨nq, hw'⟩ := hw'
      subst hw'
      go_wp2_with fail
      go_roundw
      case rel => exact ⟨k + 1, by omega, by first | rfl | go_num, Lib.hid (hR.out.trans1 (Frame.drewN _ _ _))⟩
      case measure => first | (simp [intOf]; done) | (simp [intOf]; omega)
    · obtain rfl : k = es.length := by omega
      go_wp2_with fail
      go_ret
      exact ⟨rfl, hR.out⟩

set_option maxHeartbeats 8000000 in
set_option maxRecDepth 100000 in
theorem rout_any (U : Nat → Prop) (an ae : Option Addr) (nn nc ec : Nat) (es : List Ed) (nx t : Int) (s : ByteArray) (back : Bool) (w : World) (h : RF U w 4 Ed.cs ae es) (hl : es.length ≤ 1000000) :
    Calls Tryz.prog 17 #[.agg #[.slice an nn nc, .slice ae es.length ec, .int .i64 nx], .int .i64 t, .string s, .bool back] w (FreshEnd 44 4 Ed.cs (es.filter (outP t s back)) w) := by
  have H := Lib.hid h
  clear h
  go_enter Tryz.func17, Tryz.ntmps17
  go_wp2_with fail
  have b0 := Blk.new w 25 #[.slice an nn nc, .slice ae es.length ec, .int .i64 nx]
  have fr : Frame [] w (w.alloc (.cells #[.slice an nn nc, .slice ae es.length ec, .int .i64 nx] 25)) := Frame.alloc _ _ _
  generalize w.alloc (.cells #[.slice an nn nc, .slice ae es.length ec, .int .i64 nx] 25) = wa at *
  have B := Lib.hid b0
  have FR := Lib.hid fr
  clear b0 fr
  go_loopw [9, 10] (fun u i wr => ∃ (k : Nat) (a : Option Addr) (n c : Nat) (G : List Nat), k ≤ es.length ∧ i = .int .i64 k ∧ u = .slice a n c ∧ n ≤ k ∧ Hid (Frame [] wa wr ∧ Sl wr 44 4 Ed.cs (.slice a n c) ((es.take k).filter (outP t s back)) G ∧ ((es.take k).filter (outP t s back)).length = n ∧ ∀ x ∈ G, wa.heap.size ≤ x)) (fun _ i _ => es.length - (intOf i).toNat)
  case atStart => exact ⟨0, none, 0, 0, [], Nat.zero_le _, rfl, rfl, Nat.le_refl _, Frame.refl _ _, Sl.nil _ _ _ _, rfl, by simp⟩
  case round =>
    obtain ⟨k, a, n, c, G, hk, rfl, rfl, hnk, hR⟩ := hrel
    have z1 := (B.out.frame hR.out.1 (by simp)).at 1 rfl
    by_cases hlt : k < es.length
    · have g1 : es[k]? = some es[k] := by simp [hlt]
      obtain ⟨b, off, rfl, -, q⟩ := ((H.out.frame0 FR.out).frame0 hR.out.1) k _ g1
      have d0 := q 0 _ rfl
      have d1 := q 1 _ rfl
      have d2 := q 2 _ rfl
      have d3 := q 3 _ rfl
      simp only [Nat.add_zero] at d0
      generalize es[k] = ed at *
      obtain ⟨tk, sr, lb, ds⟩ := ed
      simp only at d0 d1 d2 d3
      have G1 := Lib.hid g1
      clear g1 q
      by_cases h1 : lb = s
      · have hb := beq_toList_true h1
        cases back with
        | false =>
          by_cases h2 : sr = t
          · have hb2 : (sr == t) = true := by simpa using h2
            have HP : Hid (outP t s false ⟨tk, sr, lb, ds⟩ = true) := Lib.hid (by simp [outP, h1, h2])
            clear h1 h2
            go_wp2_with (at_builtin; refine wpList_append_rf rfl (.tmp 47) (.tmp 49) 23 rfl 44 4 40 _ Ed.cs Tryz.underlying23 infoEdge rfl (by omega) _ ((es.take k).filter (outP t s false)) n hR.out.2.2.1 G rfl ((hR.out.2.1.frame0 (Frame.alloc _ _ _)).frame0 (Frame.alloc _ _ _)) (fun y => y = wr.heap.size + 1) _ 1 1 [⟨tk, sr, lb, ds⟩] rfl (rf_one (Blk.fresh (by simp)) _ rfl) rfl ed_len ed_one (n + 1) rfl (by omega) (by omega) ?_; intro a8 c8 w8 G8 sl8 f8 hG8)
            have F8 : Hid (Frame [] wa w8) := ((hR.out.1.trans1 (Frame.alloc [] _ _)).trans1 (Frame.alloc [] _ _)).trans f8 (fun x hx => .inr (hR.out.2.2.2 x hx))
            have hg8 : ∀ x ∈ G8, wa.heap.size ≤ x := fun x hx => by
              rcases hG8 x hx with h | h
              · exact hR.out.2.2.2 x h
              · have := hR.out.1.size; simp at h; omega
            have S8 := Lib.hid (And.intro sl8 hg8)
            clear sl8 f8 hG8 hg8 d0 d1 d2 d3
            go_wp2_with fail
            go_roundw
            case rel => exact ⟨k + 1, a8, n + 1, c8, G8, by omega, by first | rfl | go_num, rfl, by omega, Lib.hid ⟨F8.out, by rw [filter_in G1.out HP.out]; exact S8.out.1, by rw [filter_in G1.out HP.out, List.length_append, hR.out.2.2.1]; rfl, S8.out.2⟩⟩
            case measure => first | (simp [intOf]; done) | (simp [intOf]; omega)
          · have hb2 : (sr == t) = false := by simpa using h2
            have HP : Hid (outP t s false ⟨tk, sr, lb, ds⟩ = false) := Lib.hid (by simp [outP, h1, h2])
            clear h1 h2
            go_wp2_with fail
            go_roundw
            case rel => exact ⟨k + 1, a, n, c, G, by omega, by first | rfl | go_num, rfl, by omega, Lib.hid ⟨hR.out.1.trans1 (by (repeat first | assumption | exact Frame.refl _ _ | refine Frame.trans1 ?_ (Frame.alloc _ _ _) | refine Frame.trans1 ?_ (Frame.drew _ _) | refine Frame.trans1 ?_ (Frame.drewN _ _ _))), by rw [filter_out G1.out HP.out]; exact hR.out.2.1.frame0 (by (repeat first | assumption | exact Frame.refl _ _ | refine Frame.trans1 ?_ (Frame.alloc _ _ _) | refine Frame.trans1 ?_ (Frame.drew _ _) | refine Frame.trans1 ?_ (Frame.drewN _ _ _))), by rw [filter_out G1.out HP.out]; exact hR.out.2.2.1, hR.out.2.2.2⟩⟩
            case measure => first | (simp [intOf]; done) | (simp [intOf]; omega)
        | true =>
          by_cases h2 : ds = t
          · have hb2 : (ds == t) = true := by simpa using h2
            have HP : Hid (outP t s true ⟨tk, sr, lb, ds⟩ = true) := Lib.hid (by simp [outP, h1, h2])
            clear h1 h2
            go_wp2_with (at_builtin; refine wpList_append_rf rfl (.tmp 47) (.tmp 49) 23 rfl 44 4 40 _ Ed.cs Tryz.underlying23 infoEdge rfl (by omega) _ ((es.take k).filter (outP t s true)) n hR.out.2.2.1 G rfl ((hR.out.2.1.frame0 (Frame.alloc _ _ _)).frame0 (Frame.alloc _ _ _)) (fun y => y = wr.heap.size + 1) _ 1 1 [⟨tk, sr, lb, ds⟩] rfl (rf_one (Blk.fresh (by simp)) _ rfl) rfl ed_len ed_one (n + 1) rfl (by omega) (by omega) ?_; intro a8 c8 w8 G8 sl8 f8 hG8)
            have F8 : Hid (Frame [] wa w8) := ((hR.out.1.trans1 (Frame.alloc [] _ _)).trans1 (Frame.alloc [] _ _)).trans f8 (fun x hx => .inr (hR.out.2.2.2 x hx))
            have hg8 : ∀ x ∈ G8, wa.heap.size ≤ x := fun x hx => by
              rcases hG8 x hx with h | h
              · exact hR.out.2.2.2 x h
              · have := hR.out.1.size; simp at h; omega
            have S8 := Lib.hid (And.intro sl8 hg8)
            clear sl8 f8 hG8 hg8 d0 d1 d2 d3
            go_wp2_with fail
            go_roundw
            case rel => exact ⟨k + 1, a8, n + 1, c8, G8, by omega, by first | rfl | go_num, rfl, by omega, Lib.hid ⟨F8.out, by rw [filter_in G1.out HP.out]; exact S8.out.1, by rw [filter_in G1.out HP.out, List.length_append, hR.out.2.2.1]; rfl, S8.out.2⟩⟩
            case measure => first | (simp [intOf]; done) | (simp [intOf]; omega)
          · have hb2 : (ds == t) = false := by simpa using h2
            have HP : Hid (outP t s true ⟨tk, sr, lb, ds⟩ = false) := Lib.hid (by simp [outP, h1, h2])
            clear h1 h2
            go_wp2_with fail
            go_roundw
            case rel => exact ⟨k + 1, a, n, c, G, by omega, by first | rfl | go_num, rfl, by omega, Lib.hid ⟨hR.out.1.trans1 (by (repeat first | assumption | exact Frame.refl _ _ | refine Frame.trans1 ?_ (Frame.alloc _ _ _) | refine Frame.trans1 ?_ (Frame.drew _ _) | refine Frame.trans1 ?_ (Frame.drewN _ _ _))), by rw [filter_out G1.out HP.out]; exact hR.out.2.1.frame0 (by (repeat first | assumption | exact Frame.refl _ _ | refine Frame.trans1 ?_ (Frame.alloc _ _ _) | refine Frame.trans1 ?_ (Frame.drew _ _) | refine Frame.trans1 ?_ (Frame.drewN _ _ _))), by rw [filter_out G1.out HP.out]; exact hR.out.2.2.1, hR.out.2.2.2⟩⟩
            case measure => first | (simp [intOf]; done) | (simp [intOf]; omega)
      · have hb := beq_toList_false h1
        have HP : Hid (outP t s back ⟨tk, sr, lb, ds⟩ = false) := Lib.hid (by simp [outP, h1])
        clear h1
        go_wp2_with fail
        go_roundw
        case rel => exact ⟨k + 1, a, n, c, G, by omega, by first | rfl | go_num, rfl, by omega, Lib.hid ⟨hR.out.1.trans1 (by (repeat first | assumption | exact Frame.refl _ _ | refine Frame.trans1 ?_ (Frame.alloc _ _ _) | refine Frame.trans1 ?_ (Frame.drew _ _) | refine Frame.trans1 ?_ (Frame.drewN _ _ _))), by rw [filter_out G1.out HP.out]; exact hR.out.2.1.frame0 (by (repeat first | assumption | exact Frame.refl _ _ | refine Frame.trans1 ?_ (Frame.alloc _ _ _) | refine Frame.trans1 ?_ (Frame.drew _ _) | refine Frame.trans1 ?_ (Frame.drewN _ _ _))), by rw [filter_out G1.out HP.out]; exact hR.out.2.2.1, hR.out.2.2.2⟩⟩
        case measure => first | (simp [intOf]; done) | (simp [intOf]; omega)
    · obtain rfl : k = es.length := by omega
      go_wp2_with fail
      go_ret
      have hR' := hR.out
      rw [List.take_length] at hR'
      obtain ⟨q1, q2, rfl, q4⟩ := hR'
      exact ⟨a, c, G, rfl, q2, FR.out.trans1 q1, fun x hx => Nat.le_trans FR.out.size (q4 x hx)⟩

set_option maxHeartbeats 8000000 in
set_option maxRecDepth 100000 in
theorem ihas_any {U : Nat → Prop} {xb : Nat} {ns : List Nv} {es : List Ed} {given : Int} {w : World} (h : IX U xb ns es given w) (hv : VOk ns) (vr nm vl : ByteArray) (pr : Bool) :
    Calls Tryz.prog 14 #[.pointer (some ⟨xb, 0, none⟩), .agg #[.string vr, .bool pr, .string nm, .string vl]] w (FreshEnd 3 1 encI ((ns.map (·.1)).filter fun t => holdsV ns t pr nm vl) w) := by
  have hnl := hv.len
  have H := Lib.hid h
  have HID := Lib.hid (fun w' (f : Frame [] w w') => ids_any (h.frame0 f) (by omega))
  obtain ⟨-, gb, na, nc, ea, ec, hb, ⟨F, gv, -⟩, -⟩ := h
  have HH := Lib.hid (fun w' (f : Frame [] w w') t => gholds_any (gv.frame0 f) hv t vr nm vl pr)
  have HB := Lib.hid hb
  clear hb gv hv
  have hlm : (ns.map (·.1)).length = ns.length := List.length_map ..
  generalize (ns.map (·.1)) = ids at *
  go_enter Tryz.func14, Tryz.ntmps14
  go_wp2_with fail
  have b0 := Blk.new w 27 #[.string vr, .bool pr, .string nm, .string vl]
  have fr : Frame [] w (w.alloc (.cells #[.string vr, .bool pr, .string nm, .string vl] 27)) := Frame.alloc _ _ _
  generalize w.alloc (.cells #[.string vr, .bool pr, .string nm, .string vl] 27) = wa at *
  refine (HID.out _ fr).mono ?_
  rintro e w1 ⟨ia, ic, IG, rfl, si, f1, -⟩
  have SI := Lib.hid (si.rf encI_len (U := fun _ => True) (fun _ _ => trivial))
  have B1 := Lib.hid (b0.frame f1 (by simp))
  have F1 := Lib.hid (fr.trans1 f1)
  clear si b0 fr f1 HID
  go_wp2_with fail
  go_loopw [4, 10] (fun u i wr => ∃ (k : Nat) (a : Option Addr) (n c : Nat) (G : List Nat), k ≤ ids.length ∧ i = .int .i64 k ∧ u = .slice a n c ∧ n ≤ k ∧ Hid (Frame [] w1 wr ∧ Sl wr 3 1 encI (.slice a n c) ((ids.take k).filter fun t => holdsV ns t pr nm vl) G ∧ ((ids.take k).filter fun t => holdsV ns t pr nm vl).length = n ∧ ∀ x ∈ G, w1.heap.size ≤ x)) (fun _ i _ => ids.length - (intOf i).toNat)
  case atStart => exact ⟨0, none, 0, 0, [], Nat.zero_le _, rfl, rfl, Nat.le_refl _, Frame.refl _ _, Sl.nil _ _ _ _, rfl, by simp⟩
  case round =>
    obtain ⟨k, a, n, c, G, hk, rfl, rfl, hnk, hR⟩ := hrel
    by_cases hlt : k < ids.length
    · have g1 : ids[k]? = some ids[k] := by simp [hlt]
      obtain ⟨b, off, rfl, -, q⟩ := (SI.out.frame0 hR.out.1) k _ g1
      have d0 := q 0 _ rfl
      simp only [Nat.add_zero, Nat.mul_one] at d0
      generalize ids[k] = t at *
      have HH1 := Lib.hid (fun w' (f : Frame [] wr w') => HH.out w' ((F1.out.trans1 hR.out.1).trans1 f) t)
      obtain ⟨r, hr⟩ : ∃ r, holdsV ns t pr nm vl = r := ⟨_, rfl⟩
      rw [hr] at HH1
      have HP : Hid ((fun t => holdsV ns t pr nm vl) t = r) := hr
      have G1 := Lib.hid g1
      have X0 : ∀ w', Frame [] wr w' → w'.cell? ⟨xb, 0, none⟩ = some (.pointer (some ⟨gb, 0, none⟩)) := fun w' f => (HB.out.frame ((F1.out.trans1 hR.out.1).trans1 f) (by simp)).at 0 rfl
      have P0 : ∀ w', Frame [] wr w' → w'.cell? ⟨w.heap.size, 0, none⟩ = some (.string vr) := fun w' f => (B1.out.frame (hR.out.1.trans1 f) (by simp)).at 0 rfl
      have P1 : ∀ w', Frame [] wr w' → w'.cell? ⟨w.heap.size, 1, none⟩ = some (.bool pr) := fun w' f => (B1.out.frame (hR.out.1.trans1 f) (by simp)).at 1 rfl
      have P2 : ∀ w', Frame [] wr w' → w'.cell? ⟨w.heap.size, 2, none⟩ = some (.string nm) := fun w' f => (B1.out.frame (hR.out.1.trans1 f) (by simp)).at 2 rfl
      have P3 : ∀ w', Frame [] wr w' → w'.cell? ⟨w.heap.size, 3, none⟩ = some (.string vl) := fun w' f => (B1.out.frame (hR.out.1.trans1 f) (by simp)).at 3 rfl
      clear g1 q hr
      go_wp2_with fail
      go_region_held3 (fun w' => Frame [] wr w') ((repeat first | assumption | exact Frame.refl _ _ | refine Frame.trans1 ?_ (Frame.alloc _ _ _) | refine Frame.trans1 ?_ (Frame.drew _ _) | refine Frame.trans1 ?_ (Frame.drewN _ _ _)))
        ((first | (go_at_call 23; refine (HH1.out _ (by (repeat first | assumption | exact Frame.refl _ _ | refine Frame.trans1 ?_ (Frame.alloc _ _ _) | refine Frame.trans1 ?_ (Frame.drew _ _) | refine Frame.trans1 ?_ (Frame.drewN _ _ _)))).mono ?_; rintro e w7 ⟨rfl, f7⟩; have F7 : Frame [] wr w7 := (show Frame [] wr _ from by (repeat first | assumption | exact Frame.refl _ _ | refine Frame.trans1 ?_ (Frame.alloc _ _ _) | refine Frame.trans1 ?_ (Frame.drew _ _) | refine Frame.trans1 ?_ (Frame.drewN _ _ _))).trans1 f7; clear f7)))
      have F7 := Lib.hid F7
      clear X0 P0 P1 P2 P3 d0
      cases r with
      | false =>
        go_wp2_with fail
        go_roundw
        case rel => exact ⟨k + 1, a, n, c, G, by omega, by first | rfl | go_num, rfl, by omega, Lib.hid ⟨hR.out.1.trans1 F7.out, by rw [filter_out G1.out HP.out]; exact hR.out.2.1.frame0 F7.out, by rw [filter_out G1.out HP.out]; exact hR.out.2.2.1, hR.out.2.2.2⟩⟩
        case measure => first | (simp [intOf]; done) | (simp [intOf]; omega)
      | true =>
        go_wp2_with (at_builtin; refine wpList_append_rf rfl (.tmp 21) (.tmp 23) 37 rfl 3 1 8 _ encI Tryz.underlying37 infoInt rfl (by omega) _ ((ids.take k).filter fun t => holdsV ns t pr nm vl) n hR.out.2.2.1 G rfl ((hR.out.2.1.frame0 F7.out).frame0 (Frame.alloc _ _ _)) (fun y => y = w7.heap.size) _ 1 1 [t] rfl (rf_one (Blk.new _ _ _) _ rfl) rfl encI_len encI_one (n + 1) rfl (by omega) (by omega) ?_; intro a8 c8 w8 G8 sl8 f8 hG8)
        have hz := (hR.out.1.trans1 F7.out).size
        have F8 : Hid (Frame [] w1 w8) := ((hR.out.1.trans1 F7.out).trans1 (Frame.alloc [] _ _)).trans f8 (fun x hx => .inr (hR.out.2.2.2 x hx))
        have hg8 : ∀ x ∈ G8, w1.heap.size ≤ x := fun x hx => by
          rcases hG8 x hx with h | h
          · exact hR.out.2.2.2 x h
          · simp at h; omega
        have S8 := Lib.hid (And.intro sl8 hg8)
        clear sl8 f8 hG8 hg8
        go_wp2_with fail
        go_roundw
        case rel => exact ⟨k + 1, a8, n + 1, c8, G8, by omega, by first | rfl | go_num, rfl, by omega, Lib.hid ⟨F8.out, by rw [filter_in G1.out HP.out]; exact S8.out.1, by rw [filter_in G1.out HP.out, List.length_append, hR.out.2.2.1]; rfl, S8.out.2⟩⟩
        case measure => first | (simp [intOf]; done) | (simp [intOf]; omega)
    · obtain rfl : k = ids.length := by omega
      go_wp2_with fail
      go_ret
      have hR' := hR.out
      rw [List.take_length] at hR'
      obtain ⟨q1, q2, rfl, q4⟩ := hR'
      exact ⟨a, c, G, rfl, q2, F1.out.trans1 q1, fun x hx => Nat.le_trans F1.out.size (q4 x hx)⟩
end Go.Proofs.YtjcajidgaejhoaaGreat

namespace Go.Proofs.YtjcajidgaejhoaaGreat
open Go.RowKit
set_option linter.unusedSimpArgs false
set_option linter.unusedVariables false

theorem inew_nil (w : World) : Calls Tryz.prog 10 #[.pointer none] w fun e w' => e = .returned (.pointer none) ∧ Frame [] w w' := by
  go_enter Tryz.func10, Tryz.ntmps10
  go_wp2_with fail
  go_ret
  exact ⟨rfl, Frame.refl _ _⟩
theorem only_nil (K : Nat) (caps : Array Value) (w : World) : Calls Tryz.prog 41 #[.pointer none, .func (.func K) #[] caps] w fun e w' => e = .returned (.slice none 0 0) ∧ Frame [] w w' := by
  go_enter Tryz.func41, Tryz.ntmps41
  go_wp2_with fail
  go_ret
  exact ⟨rfl, Frame.refl _ _⟩
theorem iedges_nil (s : ByteArray) (w : World) : Calls Tryz.prog 18 #[.pointer none, .string s] w fun e w' => e = .returned (.slice none 0 0) ∧ Frame [] w w' := by
  have hmf := run_makeFunc
  go_enter Tryz.func18, Tryz.ntmps18
  go_wp2_with fail
  refine (only_nil 43 _ _).mono ?_
  rintro e w1 ⟨rfl, f1⟩
  have F1 := Lib.hid ((show Frame [] w _ from by (repeat first | assumption | exact Frame.refl _ _ | refine Frame.trans1 ?_ (Frame.alloc _ _ _) | refine Frame.trans1 ?_ (Frame.drew _ _) | refine Frame.trans1 ?_ (Frame.drewN _ _ _))).trans1 f1)
  clear f1
  go_wp2_with fail
  go_ret
  exact ⟨rfl, F1.out⟩
theorem icount_nil (s : ByteArray) (w : World) : Calls Tryz.prog 19 #[.pointer none, .string s] w fun e w' => e = .returned (.int .i64 0) ∧ Frame [] w w' := by
  go_enter Tryz.func19, Tryz.ntmps19
  go_wp2_with fail
  refine (iedges_nil s _).mono ?_
  rintro e w1 ⟨rfl, f1⟩
  go_wp2_with fail
  go_ret
  exact ⟨rfl, f1⟩
set_option maxRecDepth 100000 in
theorem ilabels_nil (w : World) : Calls Tryz.prog 21 #[.pointer none] w fun e w' => e = .returned (.slice none 0 0) ∧ Frame [] w w' := by
  have HS : Hid (∀ w', Calls Tryz.prog 45 #[.slice none 0 0] w' fun e w'' => e = .returned (.tuple #[]) ∧ Frame [] w' w'') := by
    show ∀ w', _
    intro w'
    refine (Tryz.slices_Sort_string_none none 0 w').mono fun e w'' h => ⟨h.1, by rw [h.2]; exact Frame.refl _ _⟩
  have HC : Hid (∀ w', Calls Tryz.prog 46 #[.slice none 0 0] w' fun e w'' => e = .returned (.slice none 0 0) ∧ Frame [] w' w'') := by
    show ∀ w', _
    intro w'
    refine (Tryz.slices_Compact_string_empty none 0 w').mono fun e w'' h => ⟨h.1, by rw [h.2]; exact Frame.refl _ _⟩
  go_enter Tryz.func21, Tryz.ntmps21
  go_wp2_with fail
  refine (only_nil 44 _ _).mono ?_
  rintro e w1 ⟨rfl, f1⟩
  have F1 := Lib.hid f1
  clear f1
  go_wp2_with fail
  go_loopw [2, 8] (fun u i wr => u = .slice none 0 0 ∧ i = .int .i64 0 ∧ Hid (Frame [] w1 wr)) (fun _ i _ => 0)
  case atStart => exact ⟨rfl, rfl, Lib.hid (Frame.refl _ _)⟩
  case round =>
    obtain ⟨rfl, rfl, hR⟩ := hrel
    go_wp2_with fail
    refine (HS.out wr).mono ?_
    rintro e w2 ⟨rfl, f2⟩
    have F2 := Lib.hid f2
    clear f2
    go_wp2_with fail
    refine (HC.out w2).mono ?_
    rintro e w3 ⟨rfl, f3⟩
    have F3 := Lib.hid f3
    clear f3
    go_wp2_with fail
    go_ret
    exact ⟨rfl, ((F1.out.trans1 hR.out).trans1 F2.out).trans1 F3.out⟩
theorem nodeOf_at {ns : List Nv} (hu : Up (ns.map (·.1))) {k : Nat} {n : Nv} (h : ns[k]? = some n) : nodeOf ns n.1 = (n, true) := by
  have hm : n.1 ∈ ns.map (·.1) := List.mem_map.2 ⟨n, List.mem_of_getElem? h, rfl⟩
  obtain ⟨A, m, B, rfl, hA, hm1⟩ := v_split hu hm
  unfold nodeOf
  rw [if_pos hm, ← hA]
  have he : m = n := by
    obtain ⟨hk, h'⟩ := List.getElem?_eq_some_iff.1 h
    have hnd : ((A ++ m :: B).map (·.1)).Nodup := hu.imp fun {a b} h e => by omega
    have h1 : ((A ++ m :: B).map (·.1))[A.length]? = some n.1 := by simp [hm1]
    have h2 : ((A ++ m :: B).map (·.1))[k]? = some n.1 := by rw [List.getElem?_map, h]; rfl
    have hl1 := (List.getElem?_eq_some_iff.1 h1).1
    have hl2 := (List.getElem?_eq_some_iff.1 h2).1
    have := ((List.getElem?_inj hl1 hnd).1 (by rw [h1, h2]) : A.length = k)
    subst this
    simp at h
    exact h
  subst he
  simp

set_option maxHeartbeats 8000000 in
set_option maxRecDepth 100000 in
theorem has12_any (U : Nat → Prop) (an ae : Option Addr) (nc en ec : Nat) (ns : List Nv) (nx : Int) (s vl : ByteArray) (w : World) (h : RN U w an ns) (hv : VOk ns) :
    Calls Tryz.prog 28 #[.agg #[.slice an ns.length nc, .slice ae en ec, .int .i64 nx], .string s] w (FreshEnd 3 1 encI ((ns.map (·.1)).filter fun t => holdsV ns t false s vl) w) := by
  have hnl := hv.len
  have H := Lib.hid h
  have HV := Lib.hid hv
  clear h hv
  go_enter Tryz.func28, Tryz.ntmps28
  go_wp2_with fail
  have b0 := Blk.new w 25 #[.slice an ns.length nc, .slice ae en ec, .int .i64 nx]
  have fr : Frame [] w (w.alloc (.cells #[.slice an ns.length nc, .slice ae en ec, .int .i64 nx] 25)) := Frame.alloc _ _ _
  generalize w.alloc (.cells #[.slice an ns.length nc, .slice ae en ec, .int .i64 nx] 25) = wa at *
  have B := Lib.hid b0
  have FR := Lib.hid fr
  clear b0 fr
  go_loopw [5, 6] (fun u i wr => ∃ (k : Nat) (a : Option Addr) (n c : Nat) (G : List Nat), k ≤ ns.length ∧ i = .int .i64 k ∧ u = .slice a n c ∧ n ≤ k ∧ Hid (Frame [] wa wr ∧ Sl wr 3 1 encI (.slice a n c) (((ns.take k).map (·.1)).filter fun t => holdsV ns t false s vl) G ∧ (((ns.take k).map (·.1)).filter fun t => holdsV ns t false s vl).length = n ∧ ∀ x ∈ G, wa.heap.size ≤ x)) (fun _ i _ => ns.length - (intOf i).toNat)
  case atStart => exact ⟨0, none, 0, 0, [], Nat.zero_le _, rfl, rfl, Nat.le_refl _, Frame.refl _ _, Sl.nil _ _ _ _, rfl, by simp⟩
  case round =>
    obtain ⟨k, a, n, c, G, hk, rfl, rfl, hnk, hR⟩ := hrel
    have z0 := (B.out.frame hR.out.1 (by simp)).at 0 rfl
    by_cases hlt : k < ns.length
    · have g1 : ns[k]? = some ns[k] := by simp [hlt]
      obtain ⟨b, off, la, lc, pa, pc, rfl, -, q0, q1, -, ql, -⟩ := ((H.out.frame0 FR.out).frame0 hR.out.1) k _ g1
      have hmap : (ns.take (k + 1)).map (·.1) = (ns.take k).map (·.1) ++ [ns[k].1] := by rw [take_one' g1, List.map_append]; rfl
      have hnd := nodeOf_at HV.out.up g1
      have hls := (HV.out.ls _ (List.mem_of_getElem? g1)).2
      have hho : holdsV ns ns[k].1 false s vl = memS s ns[k].2.1 := by unfold holdsV; rw [hnd]; simp [carries]
      generalize ns[k] = nd at *
      obtain ⟨t, nls, nps⟩ := nd
      simp only at q0 q1 ql hmap hls hho
      have HIN := Lib.hid (fun w' (f : Frame [] wr w') => in_any U la lc nls s w' (ql.frame0 f) (by omega))
      have HM := Lib.hid hmap
      have HO := Lib.hid hho
      have Q := Lib.hid q0
      clear g1 hmap hnd hho ql
      go_wp2_with fail
      refine (HIN.out _ (by (repeat first | assumption | exact Frame.refl _ _ | refine Frame.trans1 ?_ (Frame.alloc _ _ _) | refine Frame.trans1 ?_ (Frame.drew _ _) | refine Frame.trans1 ?_ (Frame.drewN _ _ _)))).mono ?_
      clear HIN
      rintro e w6 ⟨r, rfl, hr, f6⟩
      have F6 := Lib.hid f6
      have z0 := (B.out.frame (hR.out.1.trans1 f6) (by simp)).at 0 rfl
      have q0 := f6.cell Q.out (by simp)
      clear f6 q1
      by_cases hs : s ∈ nls
      · have h0 : decide (0 ≤ r) = true := decide_eq_true (hr.2 hs)
        have HP : Hid ((fun t => holdsV ns t false s vl) t = true) := by show holdsV ns t false s vl = true; rw [HO.out]; exact memS_iff.2 hs
        clear hs hr
        have hln := hR.out.2.2.1
        go_wp2_with (at_builtin; refine wpList_append_rf rfl (.tmp 23) (.tmp 30) 37 rfl 3 1 8 _ encI Tryz.underlying37 infoInt rfl (by omega) _ (((ns.take k).map (·.1)).filter fun t => holdsV ns t false s vl) n hln G rfl ((hR.out.2.1.frame0 F6.out).frame0 (Frame.alloc _ _ _)) (fun y => y = w6.heap.size) _ 1 1 [t] rfl (rf_one (Blk.fresh (by simp)) _ rfl) rfl encI_len encI_one (n + 1) rfl (by omega) (by omega) ?_; intro a8 c8 w8 G8 sl8 f8 hG8)
        have hz := (hR.out.1.trans1 F6.out).size
        have F8 : Hid (Frame [] wa w8) := ((hR.out.1.trans1 F6.out).trans1 (Frame.alloc [] _ _)).trans f8 (fun x hx => .inr (hR.out.2.2.2 x hx))
        have hg8 : ∀ x ∈ G8, wa.heap.size ≤ x := fun x hx => by
          rcases hG8 x hx with h | h
          · exact hR.out.2.2.2 x h
          · simp at h; omega
        have S8 := Lib.hid (And.intro sl8 hg8)
        clear sl8 f8 hG8 hg8 q0 z0
        go_wp2_with fail
        go_roundw
        case rel => exact ⟨k + 1, a8, n + 1, c8, G8, by omega, by first | rfl | go_num, rfl, by omega, Lib.hid ⟨F8.out, by rw [HM.out, List.filter_append, show [t].filter (fun t => holdsV ns t false s vl) = [t] from by simp [HP.out]]; exact S8.out.1, by rw [HM.out, List.filter_append, show [t].filter (fun t => holdsV ns t false s vl) = [t] from by simp [HP.out], List.length_append, hln]; rfl, S8.out.2⟩⟩
        case measure => first | (simp [intOf]; done) | (simp [intOf]; omega)
      · have h0 : decide (0 ≤ r) = false := decide_eq_false (fun h => hs (hr.1 h))
        have HP : Hid ((fun t => holdsV ns t false s vl) t = false) := by show holdsV ns t false s vl = false; rw [HO.out]; exact memS_not.2 hs
        clear hs hr
        go_wp2_with fail
        go_roundw
        case rel => exact ⟨k + 1, a, n, c, G, by omega, by first | rfl | go_num, rfl, by omega, Lib.hid ⟨hR.out.1.trans1 F6.out, by rw [HM.out, List.filter_append, show [t].filter (fun t => holdsV ns t false s vl) = [] from by simp [HP.out], List.append_nil]; exact hR.out.2.1.frame0 F6.out, by rw [HM.out, List.filter_append, show [t].filter (fun t => holdsV ns t false s vl) = [] from by simp [HP.out], List.append_nil]; exact hR.out.2.2.1, hR.out.2.2.2⟩⟩
        case measure => first | (simp [intOf]; done) | (simp [intOf]; omega)
    · obtain rfl : k = ns.length := by omega
      go_wp2_with fail
      go_ret
      have hR' := hR.out
      rw [List.take_length] at hR'
      obtain ⟨q1, q2, rfl, q4⟩ := hR'
      exact ⟨a, c, G, rfl, q2, FR.out.trans1 q1, fun x hx => Nat.le_trans FR.out.size (q4 x hx)⟩
/-- An index beside a graph that goes on. -/
def IG (w : World) (U : Nat → Prop) (pb xb : Nat) (ns : List Nv) (es : List Ed) (g : Int) (ns0 : List Nv) (es0 : List Ed) (g0 : Int) (wr : World) : Prop :=
  ∃ F, GV wr pb F ns es g ∧ Frame [] w wr ∧ (∀ x ∈ F, w.heap.size ≤ x ∧ ¬ U x) ∧ (∀ x, U x → x < wr.heap.size) ∧ IX U xb ns0 es0 g0 wr
theorem IG.frame {w wr : World} {U : Nat → Prop} {pb xb : Nat} {ns ns0 : List Nv} {es es0 : List Ed} {g g0 : Int} (h : IG w U pb xb ns es g ns0 es0 g0 wr) : Frame [] w wr := by obtain ⟨_, _, f, _⟩ := h; exact f
theorem IG.ix {w wr : World} {U : Nat → Prop} {pb xb : Nat} {ns ns0 : List Nv} {es es0 : List Ed} {g g0 : Int} (h : IG w U pb xb ns es g ns0 es0 g0 wr) : IX U xb ns0 es0 g0 wr := by obtain ⟨_, _, _, _, _, x⟩ := h; exact x
theorem IG.next {w wr w' : World} {U : Nat → Prop} {pb xb : Nat} {F : List Nat} {ns0 ns' : List Nv} {es0 es' : List Ed} {g0 g' : Int} (c : Frame [] w wr) (d : ∀ x ∈ F, w.heap.size ≤ x ∧ ¬ U x) (u : ∀ x, U x → x < wr.heap.size) (i : IX U xb ns0 es0 g0 wr) (h : GVEnd wr pb F ns' es' g' w') : IG w U pb xb ns' es' g' ns0 es0 g0 w' := by
  obtain ⟨F', p, q, r⟩ := h
  refine ⟨F', p, c.trans q (fun x hx => .inr (d x hx).1), fun x hx => ?_, fun x hx => Nat.lt_of_lt_of_le (u x hx) q.size, i.frame q (fun b hb hm => (d b hm).2 hb)⟩
  rcases r x hx with h | h
  · exact d x h
  · exact ⟨Nat.le_trans c.size h, fun hu => by have := u x hu; omega⟩
section
variable {w wr : World} {U : Nat → Prop} {pb xb : Nat} {ns ns0 : List Nv} {es es0 : List Ed} {g g0 : Int}
theorem IG.quiet {w' : World} (h : IG w U pb xb ns es g ns0 es0 g0 wr) (q : Frame [] wr w') : IG w U pb xb ns es g ns0 es0 g0 w' := by
  obtain ⟨F, a, c, d, u, i⟩ := h
  exact ⟨F, a.frame0 q, c.trans1 q, d, fun x hx => Nat.lt_of_lt_of_le (u x hx) q.size, i.frame0 q⟩
theorem IG.add (h : IG w U pb xb ns es g ns0 es0 g0 wr) (hv : VOk ns) (he : EOk es g) (x : Int) (s : ByteArray) (y : Int) (hs : s.size ≤ 9223372036854775807) :
    Calls Tryz.prog 25 #[.pointer (some ⟨pb, 0, none⟩), .int .i64 x, .string s, .int .i64 y] wr fun e w' => e = .returned (.tuple #[.int .i64 (vAdd ns es g x s y).1.1, .int .i64 (vAdd ns es g x s y).1.2]) ∧ IG w U pb xb ns (vAdd ns es g x s y).2.1 (vAdd ns es g x s y).2.2 ns0 es0 g0 w' := by
  obtain ⟨F, a, c, d, u, i⟩ := h
  exact (gv_add a hv he x s y hs).mono fun _ w' ⟨h1, h2⟩ => ⟨h1, IG.next c d u i h2⟩
theorem IG.drop (h : IG w U pb xb ns es g ns0 es0 g0 wr) (he : EOk es g) (t : Int) :
    Calls Tryz.prog 26 #[.pointer (some ⟨pb, 0, none⟩), .int .i64 t] wr fun e w' => e = .returned (.int .i64 (vDrop es t).1) ∧ IG w U pb xb ns (vDrop es t).2 g ns0 es0 g0 w' := by
  obtain ⟨F, a, c, d, u, i⟩ := h
  exact (gv_drop a he t).mono fun _ w' ⟨h1, h2⟩ => ⟨h1, IG.next c d u i h2⟩
theorem IG.label (h : IG w U pb xb ns es g ns0 es0 g0 wr) (hv : VOk ns) (t : Int) (s : ByteArray) (hs : s.size ≤ 9223372036854775807) :
    Calls Tryz.prog 27 #[.pointer (some ⟨pb, 0, none⟩), .int .i64 t, .string s] wr fun e w' => e = .returned (.int .i64 (vLabel ns t s).1) ∧ IG w U pb xb (vLabel ns t s).2 es g ns0 es0 g0 w' := by
  obtain ⟨F, a, c, d, u, i⟩ := h
  exact (gv_label a hv t s hs).mono fun _ w' ⟨h1, h2⟩ => ⟨h1, IG.next c d u i h2⟩
end
end Go.Proofs.YtjcajidgaejhoaaGreat

