/- The law GraphTokens, walked. -/
import Derived.Test.YtolkmapdbilolaaAwake10
import Derived.Test.YtolkmapdbilolaaIdxInt
namespace Go.Proofs.Ytolkmapdbilolaa
open Go.RowKit
set_option linter.unusedSimpArgs false
set_option linter.unusedVariables false

set_option maxRecDepth 100000 in
theorem graphTokens_out (a : Option Addr) (n cap : Nat) (w : World) (h : 150 < n) (hn : n ≤ 9223372036854775807) :
    Calls Try.prog 6 #[.slice a n cap] w fun e w' => e = .returned (.bool true) ∧ Frame [] w w' := by
  go_enter Try.func6, Try.ntmps6
  go_wp2_with (go_at_call 26; refine (awake10 _).mono ?_; rintro e w' ⟨rfl, f⟩)
  go_ret
  exact ⟨rfl, f⟩

/-- A graph of one node, as the calls go on. -/
def Tk (w : World) (pb : Nat) (es : List Ed) (given : Int) (wr : World) : Prop :=
  GOwn w pb [nd0 1] es given wr ∧ Up (es.map (·.tok)) ∧ (∀ e ∈ es, e.tok ≤ given) ∧ es.length ≤ 60
theorem up_snoc {ks : List Int} {t : Int} (h : Up ks) (ht : ∀ k ∈ ks, k < t) : Up (ks ++ [t]) := by
  refine List.pairwise_append.2 ⟨h, by simp, fun a ha b hb => ?_⟩
  simp at hb; subst hb; exact ht a ha
theorem Up.erase {ks : List Int} (h : Up ks) (i : Nat) : Up (ks.eraseIdx i) := h.sublist (List.eraseIdx_sublist _ _)
theorem map_erase {α β : Type} (f : α → β) (l : List α) (i : Nat) : (l.eraseIdx i).map f = (l.map f).eraseIdx i := by
  induction l generalizing i with
  | nil => simp
  | cons x t ih => cases i with
    | zero => simp
    | succ i => simp [ih]
theorem Tk.add {w wr w2 : World} {pb : Nat} {F : List Nat} {es : List Ed} {given : Int} (hF : Frame [] w wr) (hn : ∀ x ∈ F, w.heap.size ≤ x) (hu : Up (es.map (·.tok))) (ht : ∀ e ∈ es, e.tok ≤ given) (hl : es.length < 60) {s : ByteArray} {x y : Int}
    (h : GEnd wr pb F [nd0 1] (es ++ [⟨given + 1, x, s, y⟩]) (given + 1) w2) : Tk w pb (es ++ [⟨given + 1, x, s, y⟩]) (given + 1) w2 := by
  refine ⟨GOwn.next hF hn h, ?_, ?_, by simp; omega⟩
  · rw [List.map_append]
    refine up_snoc hu (fun k hk => ?_)
    obtain ⟨e, he, rfl⟩ := List.mem_map.1 hk
    have := ht e he; simp; omega
  · intro e he
    rcases List.mem_append.1 he with he | he
    · have := ht e he; omega
    · simp at he; subst he; simp
theorem Tk.drop {w wr w2 : World} {pb : Nat} {F : List Nat} {es : List Ed} {given : Int} (hF : Frame [] w wr) (hn : ∀ x ∈ F, w.heap.size ≤ x) (hu : Up (es.map (·.tok))) (ht : ∀ e ∈ es, e.tok ≤ given) (hl : es.length ≤ 60) {i : Nat}
    (h : GEnd wr pb F [nd0 1] (es.eraseIdx i) given w2) : Tk w pb (es.eraseIdx i) given w2 := by
  refine ⟨GOwn.next hF hn h, by rw [map_erase]; exact hu.erase i, fun e he => ht e (List.mem_of_mem_eraseIdx he), ?_⟩
  have := List.length_eraseIdx_le es i; omega
theorem edgeOf_in {es : List Ed} {t : Int} (h : t ∈ es.map (·.tok)) : (edgeOf es t).2 = true := by simp only [edgeOf, if_pos h]
theorem edgeOf_out {es : List Ed} {t : Int} (h : t ∉ es.map (·.tok)) : (edgeOf es t).2 = false := by simp only [edgeOf, if_neg h]

set_option maxRecDepth 100000 in
set_option maxHeartbeats 4000000 in
theorem graphTokens_in (a : Option Addr) (cap : Nat) (ts : List Int) (w : World) (h2 : ts.length ≤ 150) (hx : RdI w a ts)
    (hb : ∀ t ∈ ts, -9223372036854775808 ≤ t ∧ t ≤ 9223372036854775807) :
    Calls Try.prog 6 #[.slice a ts.length cap] w fun e w' => e = .returned (.bool true) ∧ Frame [] w w' := by
  have HX := Lib.hid hx
  have HB := Lib.hid hb
  clear hx hb
  go_enter Try.func6, Try.ntmps6
  go_wp2_with fail
  refine (gnew_any _).mono ?_
  rintro e w1 ⟨pb, rfl, s1, f1, n1⟩
  have f1 : Frame [] w w1 := f1
  have n1 : ∀ x ∈ [pb], w.heap.size ≤ x := by simpa using n1
  go_wp2_with fail
  refine (addNode_end s1 (by simp [Up]) (by simp) 1 (by omega) (by omega) (by simp) (by simp [rank])).mono ?_
  rintro e w2 ⟨rfl, he⟩
  have O := Lib.hid (show Tk w pb [] 0 w2 from ⟨GOwn.next f1 n1 he, by simp [Up], by simp, by simp⟩)
  clear he s1 f1 n1
  go_wp2_with fail
  go_loopw [4, 5, 6] (fun n l i wr => ∃ (k : Nat) (es : List Ed) (given : Int), k ≤ ts.length ∧ 0 ≤ given ∧ given ≤ k ∧ es.length ≤ 60 ∧ n = .int .i64 es.length ∧ l = .int .i64 given ∧ i = .int .i64 k ∧ Hid (Tk w pb es given wr)) (fun _ _ i _ => ts.length - (intOf i).toNat)
  case atStart => exact ⟨0, [], 0, Nat.zero_le _, by omega, by omega, by simp, rfl, rfl, rfl, O.out⟩
  case round =>
    obtain ⟨k, es, given, hk, hg0, hg1, hl6, rfl, rfl, rfl, hT⟩ := hrel
    by_cases hlt : k < ts.length
    · obtain ⟨⟨F, s2, f2, n2⟩, hu, ht, hl⟩ := hT.out
      obtain ⟨b, off, rfl, hc⟩ := (HX.out.frame f2).at hlt
      have tb := HB.out ts[k] (List.getElem_mem hlt)
      generalize ts[k] = t at *
      have hw : t ∈ es.map (·.tok) ∨ t ∉ es.map (·.tok) := by by_cases h : t ∈ es.map (·.tok) <;> simp [h]
      by_cases hm : t.tmod 3 = 0
      · have hm' : (t.tmod 3 == 0) = true := by simpa using hm
        have hm2 : (t.tmod 3 != 0) = false := by simpa using hm
        have hE := fun w' (f : Frame [] wr w') => gedge_any (s2.frame0 f) hu (by omega) t
        by_cases hin : t ∈ es.map (·.tok)
        · have hD := fun w' (f : Frame [] wr w') => gdrop_ok (s2.frame0 f) hu (by omega) t hin
          rw [edgeOf_in hin] at hE
          have hrk := rank_lt hu hin
          generalize (edgeOf es t).1 = ed at *
          rw [List.length_map] at hrk
          generalize rank (es.map (·.tok)) t = rk at *
          have el := List.length_eraseIdx_of_lt hrk.1
          have hpos : 0 < es.length := by omega
          have HE := Lib.hid hE
          have HD := Lib.hid hD
          have HS := Lib.hid (And.intro f2 (And.intro n2 (And.intro hu (And.intro ht (And.intro hl el)))))
          clear hE hD hin hrk el hu ht hl s2 f2 n2 hm hT hw
          go_wp2_with fail
          refine (HE.out _ (by (repeat first | assumption | exact Frame.refl _ _ | refine Frame.trans1 ?_ (Frame.alloc _ _ _) | refine Frame.trans1 ?_ (Frame.drew _ _) | refine Frame.trans1 ?_ (Frame.drewN _ _ _)))).mono ?_
          rintro e w4 ⟨rfl, f4⟩
          have hc4 : ∀ o, (w4.alloc o).cell? ⟨b, off + k, none⟩ = some (.int .i64 t) := fun o => (f4.trans1 (Frame.alloc _ _ _)).cell hc (by simp)
          go_wp2_with fail
          refine (HD.out _ (Frame.trans1 f4 (by (repeat first | assumption | exact Frame.refl _ _ | refine Frame.trans1 ?_ (Frame.alloc _ _ _) | refine Frame.trans1 ?_ (Frame.drew _ _) | refine Frame.trans1 ?_ (Frame.drewN _ _ _))))).mono ?_
          rintro e w5 ⟨rfl, he⟩
          have T5 := Lib.hid (Tk.drop (HS.out.1.trans1 (Frame.trans1 f4 (by (repeat first | assumption | exact Frame.refl _ _ | refine Frame.trans1 ?_ (Frame.alloc _ _ _) | refine Frame.trans1 ?_ (Frame.drew _ _) | refine Frame.trans1 ?_ (Frame.drewN _ _ _))))) HS.out.2.1 HS.out.2.2.1 HS.out.2.2.2.1 HS.out.2.2.2.2.1 he)
          clear he
          go_wp2_with fail
          go_roundw
          case rel => exact ⟨k + 1, es.eraseIdx rk, given, by omega, by omega, by omega, by rw [HS.out.2.2.2.2.2]; omega, by rw [HS.out.2.2.2.2.2]; go_num, rfl, by go_num, T5⟩
          case measure => simp [intOf]; omega
        · have hD := fun w' (f : Frame [] wr w') => gdrop_none (s2.frame0 f) hu (by omega) t hin
          rw [edgeOf_out hin] at hE
          generalize (edgeOf es t).1 = ed at *
          have HE := Lib.hid hE
          have HD := Lib.hid hD
          have HS := Lib.hid hT.out
          clear hE hD hin hu ht hl s2 f2 n2 hm hT hw
          go_wp2_with fail
          refine (HE.out _ (by (repeat first | assumption | exact Frame.refl _ _ | refine Frame.trans1 ?_ (Frame.alloc _ _ _) | refine Frame.trans1 ?_ (Frame.drew _ _) | refine Frame.trans1 ?_ (Frame.drewN _ _ _)))).mono ?_
          rintro e w4 ⟨rfl, f4⟩
          have hc4 : ∀ o, (w4.alloc o).cell? ⟨b, off + k, none⟩ = some (.int .i64 t) := fun o => (f4.trans1 (Frame.alloc _ _ _)).cell hc (by simp)
          go_wp2_with fail
          refine (HD.out _ (Frame.trans1 f4 (by (repeat first | assumption | exact Frame.refl _ _ | refine Frame.trans1 ?_ (Frame.alloc _ _ _) | refine Frame.trans1 ?_ (Frame.drew _ _) | refine Frame.trans1 ?_ (Frame.drewN _ _ _))))).mono ?_
          rintro e w5 ⟨rfl, f5⟩
          have T5 := Lib.hid (show Tk w pb es given w5 from ⟨(HS.out.1.quiet (Frame.trans1 f4 (by (repeat first | assumption | exact Frame.refl _ _ | refine Frame.trans1 ?_ (Frame.alloc _ _ _) | refine Frame.trans1 ?_ (Frame.drew _ _) | refine Frame.trans1 ?_ (Frame.drewN _ _ _))))).quiet f5, HS.out.2⟩)
          clear f5
          go_wp2_with fail
          go_roundw
          case rel => exact ⟨k + 1, es, given, by omega, by omega, by omega, by omega, rfl, rfl, by go_num, T5⟩
          case measure => simp [intOf]; omega
      · have hm' : (t.tmod 3 == 0) = false := by simpa using hm
        have hm2 : (t.tmod 3 != 0) = true := by simpa using hm
        by_cases hfull : es.length < 60
        · have hb60 : decide ((es.length : Int) < 60) = true := by simp; omega
          have hA := fun w' (f : Frame [] wr w') => gadd_ok (s2.frame0 f) (by simp [Up]) (by simp) hfull hg0 (by omega) 1 1 ⟨#[97]⟩ (by decide) (by simp [nd0]) (by simp [nd0])
          have HA := Lib.hid hA
          have HS := Lib.hid (And.intro f2 (And.intro n2 (And.intro hu (And.intro ht hl))))
          clear hA hu ht hl s2 f2 n2 hm hT hw
          go_wp2_with fail
          refine (HA.out _ (by (repeat first | assumption | exact Frame.refl _ _ | refine Frame.trans1 ?_ (Frame.alloc _ _ _) | refine Frame.trans1 ?_ (Frame.drew _ _) | refine Frame.trans1 ?_ (Frame.drewN _ _ _)))).mono ?_
          rintro e w4 ⟨rfl, he⟩
          have T5 := Lib.hid (Tk.add HS.out.1 HS.out.2.1 HS.out.2.2.1 HS.out.2.2.2.1 hfull he)
          clear he
          go_wp2_with fail
          go_roundw
          case rel => exact ⟨k + 1, es ++ [⟨given + 1, 1, ⟨#[97]⟩, 1⟩], given + 1, by omega, by omega, by omega, by simp; omega, by simp, rfl, by go_num, T5⟩
          case measure => simp [intOf]; omega
        · have hb60 : decide ((es.length : Int) < 60) = false := by simp; omega
          have hA := fun w' (f : Frame [] wr w') => gadd_full (s2.frame0 f) (by simp [Up]) (by simp) (by omega) (by omega) 1 1 ⟨#[97]⟩ (by decide) (by simp [nd0]) (by simp [nd0])
          have HA := Lib.hid hA
          have HS := Lib.hid hT.out
          clear hA hu ht hl s2 f2 n2 hm hT hw
          go_wp2_with fail
          refine (HA.out _ (by (repeat first | assumption | exact Frame.refl _ _ | refine Frame.trans1 ?_ (Frame.alloc _ _ _) | refine Frame.trans1 ?_ (Frame.drew _ _) | refine Frame.trans1 ?_ (Frame.drewN _ _ _)))).mono ?_
          rintro e w4 ⟨rfl, f4⟩
          have T5 := Lib.hid (show Tk w pb es given w4 from ⟨HS.out.1.quiet f4, HS.out.2⟩)
          clear f4
          go_wp2_with fail
          go_roundw
          case rel => exact ⟨k + 1, es, given, by omega, by omega, by omega, by omega, rfl, rfl, by go_num, T5⟩
          case measure => simp [intOf]; omega
    · obtain rfl : k = ts.length := by omega
      obtain ⟨⟨F, s2, f2, n2⟩, hu, ht, hl⟩ := hT.out
      have hc := gall_any [rn0 1] s2 (by intro r hr; simp at hr; subst hr; exact rn0_ok _ _) (by simp) (by omega) (by omega)
      have HC := Lib.hid hc
      have HS := Lib.hid (And.intro f2 (And.intro n2 (And.intro hu (And.intro ht hl))))
      clear hc s2 f2 n2 hu ht hl hT
      go_wp2_with fail
      refine HC.out.mono ?_
      rintro e w7 ⟨rs', an, nc, ae, ec, G, H, rfl, -, -, -, sl, f7, -⟩
      have SL := Lib.hid sl
      clear sl
      go_wp2_with fail
      have bz := Blk.new w7 55 #[.slice an rs'.length nc, .slice ae es.length ec, .int .i64 (given + 1)]
      have fz : Frame [] w7 (w7.alloc (.cells #[.slice an rs'.length nc, .slice ae es.length ec, .int .i64 (given + 1)] 55)) := Frame.alloc _ _ _
      generalize w7.alloc (.cells #[.slice an rs'.length nc, .slice ae es.length ec, .int .i64 (given + 1)] 55) = wz at *
      generalize w7.heap.size = zb at *
      have BZ := Lib.hid bz
      have SZ := Lib.hid (SL.out.frame0 fz)
      have FZ := Lib.hid ((HS.out.1.trans1 f7).trans1 fz)
      clear bz SL
      go_loopw [12] (fun i wr => ∃ m : Nat, i = .int .i64 ((m : Int) + 1) ∧ (m = 0 ∨ m < es.length) ∧ Hid (Frame [] wz wr)) (fun i _ => es.length - (intOf i).toNat)
      case atStart => exact ⟨0, rfl, .inl rfl, Frame.refl _ _⟩
      case round =>
        rename World => wr3
        obtain ⟨m, rfl, hm, hF⟩ := hrel
        have bz3 := BZ.out.frame hF.out (by simp)
        have y1 := bz3.at 1 rfl
        have y2 := bz3.at 2 rfl
        by_cases hlt : m + 1 < es.length
        · have s3 := SZ.out.frame0 hF.out
          obtain ⟨eb, ecap, e9, _, _, hc1⟩ := s3.cell ed_len (show es[m+1]? = some es[m+1] by simp [hlt])
          obtain ⟨eb2, ecap2, e92, _, _, hc0⟩ := s3.cell ed_len (show es[m]? = some es[m] by simp)
          injection e9 with e91 _ e93
          subst e91 e93
          injection e92 with e91 _ e93
          injection e91 with e91
          injection e91 with e91
          subst e91 e93
          have hup : es[m].tok < es[m+1].tok := by
            have := List.pairwise_iff_getElem.1 HS.out.2.2.1 m (m + 1) (by simp; omega) (by simp; omega) (by omega)
            simpa using this
          have d1 := hc1 0 _ rfl
          have d0 := hc0 0 _ rfl
          simp only [Nat.add_zero] at d0 d1
          generalize es[m].tok = t0 at *
          generalize es[m+1].tok = t1 at *
          have hle : decide (t1 ≤ t0) = false := by simp; omega
          have q1 : (m : Int) + 1 - 1 = m := by omega
          have q2 : ((m : Int) + 1).toNat = m + 1 := by omega
          clear hc0 hc1 s3 bz3 hup
          go_wp2_with fail
          go_quiet (fail)
          go_wp2_with fail
          go_roundw
          case rel => exact ⟨m + 1, by go_num, .inr hlt, hF.out.trans1 (by (repeat first | assumption | exact Frame.refl _ _ | refine Frame.trans1 ?_ (Frame.alloc _ _ _) | refine Frame.trans1 ?_ (Frame.drew _ _) | refine Frame.trans1 ?_ (Frame.drewN _ _ _)))⟩
          case measure => simp [intOf]; omega
        · go_wp2_with (go_at_call 26; refine (awake10 _).mono ?_; rintro e w' ⟨rfl, f⟩)
          go_ret
          exact ⟨rfl, (FZ.out.trans1 hF.out).trans1 f⟩
end Go.Proofs.Ytolkmapdbilolaa
