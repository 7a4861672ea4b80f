/- The law CircRules, walked. -/
import Derived.Test.YtolkmapdbilolaaCircPure
import Derived.Test.YtolkmapdbilolaaRound
import Derived.Test.YtolkmapdbilolaaSl
namespace Go.Proofs.Ytolkmapdbilolaa
open Go.RowKit
set_option linter.unusedSimpArgs false
set_option linter.unusedVariables false

set_option maxRecDepth 100000 in
theorem circRules_out (a : Option Addr) (n cap : Nat) (k : Int) (w : World) (h : n = 0 ∨ 30 < n) :
    Calls Try.prog 5 #[.slice a n cap, .int .i64 k] w fun e w' => e = .returned (.bool true) ∧ Frame [] w w' := by
  rcases h with rfl | h
  · go_enter Try.func5, Try.ntmps5
    go_wp2_with (go_at_call 15; refine (awake13 _).mono ?_; rintro e w' ⟨rfl, f⟩)
    go_ret
    exact ⟨rfl, f⟩
  · have h0 : ((n : Int) == 0) = false := by simp; omega
    go_enter Try.func5, Try.ntmps5
    go_wp2_with (go_at_call 15; refine (awake13 _).mono ?_; rintro e w' ⟨rfl, f⟩)
    go_ret
    exact ⟨rfl, f⟩

/-- After some tokens: the list of their gates. -/
def Gathered (w : World) (pb : Nat) (k : Nat) (v : Value) (wr : World) : Prop :=
  ∃ (gs : List Int) (l : List Gt) (left : Int) (F G : List Nat), St wr pb F l left ∧ Frame [] w wr ∧ (∀ x ∈ F, w.heap.size ≤ x) ∧ Sl wr 3 1 encI v gs G ∧ (∀ x ∈ G, x ∉ F ∧ w.heap.size ≤ x) ∧
    gs.length = k ∧ Good l ∧ (∀ g ∈ gs, Okk l g) ∧ 498 - (k : Int) ≤ left

/-- The store and the list, as they go on. -/
def Rg (w : World) (pb b cap : Nat) (gs : List Int) (l : List Gt) (left : Int) (wr : World) : Prop :=
  ∃ F, St wr pb F l left ∧ Frame [] w wr ∧ (∀ x ∈ F, w.heap.size ≤ x) ∧ RowAt wr b 3 1 gs.length cap (gs.flatMap encI) ∧ b ∉ F ∧ Good l
theorem Rg.step {w wr w' : World} {pb b cap : Nat} {gs : List Int} {l l' : List Gt} {left' : Int} {F : List Nat} (f : Frame [] w wr) (n : ∀ x ∈ F, w.heap.size ≤ x)
    (r : RowAt wr b 3 1 gs.length cap (gs.flatMap encI)) (hb : b ∉ F) (gl : Good l) (he : Ext l l') (h : StEnd wr pb F l' left' w') : Rg w pb b cap gs l' left' w' := by
  obtain ⟨F', a, b', c⟩ := h
  have hz := f.size
  refine ⟨F', a, f.trans b' (fun x hx => .inr (n x hx)), fun x hx => by rcases c x hx with h | h; exact n x h; omega, r.frame b' hb, fun hm => ?_, gl.ext he⟩
  rcases c _ hm with h | h
  · exact hb h
  · have := r.lt; omega
section
variable {w wr : World} {pb b cap : Nat} {gs : List Int} {l l' : List Gt} {left left' r er : Int}
theorem Rg.plus (h : Rg w pb b cap gs l left wr) (x y : Int) (hp : mkPlus x y l left = ((r, er), l', left')) (he : Ext l l') :
    Calls Try.prog 21 #[.pointer (some ⟨pb, 0, none⟩), .int .i64 x, .int .i64 y] wr fun e w' => e = .returned (.tuple #[.int .i64 r, .int .i64 er]) ∧ Rg w pb b cap gs l' left' w' := by
  obtain ⟨F, s, f, n, ro, hb, gl⟩ := h
  have hc := plus_any pb F l left x y wr s (by have := gl.len; omega)
  rw [hp] at hc
  exact hc.mono fun e w' ⟨h1, h2⟩ => ⟨h1, Rg.step f n ro hb gl he h2⟩
theorem Rg.times (h : Rg w pb b cap gs l left wr) (x y : Int) (hp : mkTimes x y l left = ((r, er), l', left')) (he : Ext l l') :
    Calls Try.prog 22 #[.pointer (some ⟨pb, 0, none⟩), .int .i64 x, .int .i64 y] wr fun e w' => e = .returned (.tuple #[.int .i64 r, .int .i64 er]) ∧ Rg w pb b cap gs l' left' w' := by
  obtain ⟨F, s, f, n, ro, hb, gl⟩ := h
  have hc := times_any pb F l left x y wr s (by have := gl.len; omega)
  rw [hp] at hc
  exact hc.mono fun e w' ⟨h1, h2⟩ => ⟨h1, Rg.step f n ro hb gl he h2⟩
theorem Rg.star (h : Rg w pb b cap gs l left wr) (x : Int) (hp : mkStar x l left = ((r, er), l', left')) (he : Ext l l') :
    Calls Try.prog 23 #[.pointer (some ⟨pb, 0, none⟩), .int .i64 x] wr fun e w' => e = .returned (.tuple #[.int .i64 r, .int .i64 er]) ∧ Rg w pb b cap gs l' left' w' := by
  obtain ⟨F, s, f, n, ro, hb, gl⟩ := h
  have hc := star_any pb F l left x wr s (by have := gl.len; omega)
  rw [hp] at hc
  exact hc.mono fun e w' ⟨h1, h2⟩ => ⟨h1, Rg.step f n ro hb gl he h2⟩
theorem enc_get {gs : List Int} {k : Nat} (hk : k < gs.length) : (gs.flatMap encI)[k]? = some (.int .i64 gs[k]) := by
  have := flat_get (sz := 1) encI_len (xs := gs) (k := k) (x := gs[k]) (by simp [hk]) (j := 0) (u := .int .i64 gs[k]) rfl
  simpa using this
theorem Rg.rd (h : Rg w pb b cap gs l left wr) : RdI wr (some ⟨b, 0, none⟩) gs := by
  obtain ⟨F, s, f, n, ro, hb, gl⟩ := h
  exact .inr ⟨b, 0, rfl, ro.lt, fun k hk => by rw [Nat.zero_add]; exact ro.cell (enc_get hk)⟩
theorem Rg.sum (h : Rg w pb b cap gs l left wr) (hl : gs.length ≤ 1073741824) (hp : mkSum gs 0 l left = ((r, er), l', left')) (he : Ext l l') :
    Calls Try.prog 25 #[.pointer (some ⟨pb, 0, none⟩), .slice (some ⟨b, 0, none⟩) gs.length cap] wr fun e w' => e = .returned (.tuple #[.int .i64 r, .int .i64 er]) ∧ Rg w pb b cap gs l' left' w' := by
  have hrd := h.rd
  obtain ⟨F, s, f, n, ro, hb, gl⟩ := h
  have hc := sum_any pb F l left (some ⟨b, 0, none⟩) cap gs wr s (by have := gl.len; omega) hrd (fun b' off e hm => by cases e; exact hb hm) hl
  rw [hp] at hc
  exact hc.mono fun e w' ⟨h1, h2⟩ => ⟨h1, Rg.step f n ro hb gl he h2⟩
theorem Rg.sum0 (h : Rg w pb b cap gs l left wr) :
    Calls Try.prog 25 #[.pointer (some ⟨pb, 0, none⟩), .slice none 0 0] wr fun e w' => e = .returned (.tuple #[.int .i64 0, .int .i64 0]) ∧ Rg w pb b cap gs l left w' := by
  obtain ⟨F, s, f, n, ro, hb, gl⟩ := h
  exact (sum_any pb F l left none 0 [] wr s (by have := gl.len; omega) (.inl rfl) (fun b' off e => by cases e) (by simp)).mono fun e w' ⟨h1, h2⟩ => ⟨h1, Rg.step f n ro hb gl (Ext.refl _) h2⟩
end

set_option maxRecDepth 100000 in
set_option maxHeartbeats 4000000 in
theorem circRules_in (a : Option Addr) (cap : Nat) (ts : List Int) (k : Int) (w : World) (h1 : 0 < ts.length) (h2 : ts.length ≤ 30) (hx : RdI w a ts)
    (hb : ∀ t ∈ ts, -9223372036854775808 ≤ t ∧ t ≤ 9223372036854775807) (hk1 : -9223372036854775808 ≤ k) (hk2 : k ≤ 9223372036854775807) :
    Calls Try.prog 5 #[.slice a ts.length cap, .int .i64 k] w fun e w' => e = .returned (.bool true) ∧ Frame [] w w' := by
  have h0 : ((ts.length : Int) == 0) = false := by simp; intro e; subst e; simp at h1
  have HX := Lib.hid hx
  have HB := Lib.hid hb
  clear hx hb
  go_enter Try.func5, Try.ntmps5
  go_wp2_with fail
  refine (new_any 500 _).mono ?_
  rintro e w1 ⟨pb, rfl, F1, s1, f1, n1⟩
  rw [show room 500 = 498 from by decide] at s1
  have O := Lib.hid (show Gathered w pb 0 (.slice none 0 0) w1 from ⟨[], init, 498, F1, [], s1, f1, n1, Sl.nil _ _ _ _, by simp, rfl, ⟨[], by simp⟩, by simp, by omega⟩)
  clear s1 f1 n1
  go_wp2_with fail
  go_loopw [6, 7] (fun v i wr => ∃ j : Nat, j ≤ ts.length ∧ i = .int .i64 j ∧ Hid (Gathered w pb j v wr)) (fun _ i _ => ts.length - (intOf i).toNat)
  case atStart => exact ⟨0, Nat.zero_le _, rfl, O.out⟩
  case round =>
    obtain ⟨j, hj, rfl, hG⟩ := hrel
    by_cases hlt : j < ts.length
    · obtain ⟨gs, l, left, F, G, s2, f2, n2, sl, g2, hgs, gl, hok, hleft⟩ := hG.out
      obtain ⟨b, off, rfl, hc⟩ := (HX.out.frame f2).at hlt
      have tb := HB.out ts[j] (List.getElem_mem hlt)
      generalize ts[j] = t at *
      have m1 := Int.emod_nonneg t (show (50 : Int) ≠ 0 by omega)
      have m2 := Int.emod_lt_of_pos t (show (0 : Int) < 50 by omega)
      have hr := round_any t 50 wr (by omega) (by omega) tb.1 tb.2
      generalize t % 50 = q at *
      obtain ⟨g, l', left', p1, p2, p3, p4, p5, p6⟩ := put_room ⟨3, 1 + q, 0⟩ l left gl (not_init (by omega)) (by omega)
      have hv := var_any pb F l left (1 + q) wr s2 (by have := gl.len; omega)
      rw [show mkVar (1 + q) l left = ((g, 0), l', left') from by rw [← p1]; simp [mkVar]; omega] at hv
      have A := Lib.hid (And.intro sl (And.intro g2 (And.intro p2 (And.intro p3 (And.intro p5 (And.intro gl hok))))))
      have B := Lib.hid (And.intro f2 (And.intro n2 s2))
      clear sl g2 p1 p2 p3 p4 p5 p6 gl hok f2 n2 s2 tb
      go_wp2_with fail
      refine hr.mono ?_
      rintro e w2 ⟨rfl, rfl⟩
      go_wp2_with fail
      refine hv.mono ?_
      rintro e w3 ⟨rfl, he⟩
      obtain ⟨F', s3, f3, c3⟩ := he
      have sl3 : Sl w3 3 1 encI u6 gs G := A.out.1.frame f3 (fun x hx => (A.out.2.1 x hx).1)
      have C := Lib.hid (And.intro s3 (And.intro f3 c3))
      clear s3 f3 c3 hr hv hc
      have hlen := hgs
      have HL := Lib.hid hgs
      clear hgs hlen
      go_wp2_with (at_builtin; refine wpList_append_sl _ rfl (.tmp 69) (.tmp 71) 32 rfl 3 1 8 _ encI Try.underlying32 infoInt rfl (by omega) u6 gs G rfl (sl3.frame0 (Frame.alloc _ _ _)) w3.heap.size 1 1 [g] _ rfl (Blk.new _ _ _) rfl rfl encI_len encI_one (by omega) (by rw [HL.out]; omega) (by omega) ?_; intro b' cap' w4 sl4 f4 hb4)
      go_roundw
      case rel =>
        refine ⟨j + 1, by omega, by go_num, ?_⟩
        have hF' : ∀ x ∈ F', x ∈ F ∨ w2.heap.size ≤ x := C.out.2.2
        have hGF : ∀ x ∈ G, x ∉ F' := fun x hx hm => by
          rcases hF' x hm with h | h
          · exact (A.out.2.1 x hx).1 h
          · have := A.out.1.lt x hx; omega
        have fa := Frame.alloc [] w3 (.cells #[.int .i64 g] 3)
        have s4 : St w4 pb F' l' left' := (C.out.1.frame0 fa).frame f4 (fun x hx hm => hGF x hm hx)
        have fw : Frame [] w w4 := ((B.out.1.trans C.out.2.1 (fun x hx => .inr (B.out.2.1 x hx))).trans1 fa).trans f4 (fun x hx => .inr (A.out.2.1 x hx).2)
        have hz := B.out.1.size
        have hz3 := C.out.2.1.size
        refine ⟨gs ++ [g], l', left', F', [b'], s4, fw, ?_, by simpa [HL.out] using sl4, ?_, by simp [HL.out], A.out.2.2.2.2.2.1.ext A.out.2.2.1, ?_, by have := A.out.2.2.2.1; omega⟩
        · intro x hx
          rcases hF' x hx with h | h
          · exact B.out.2.1 x h
          · omega
        · intro x hx
          simp at hx; subst hx
          rcases hb4 with h | h
          · exact ⟨hGF x h, (A.out.2.1 x h).2⟩
          · subst h
            refine ⟨fun hm => ?_, by simp; omega⟩
            have := C.out.1.lt _ hm
            simp at this
            omega
        · intro y hy
          simp at hy
          rcases hy with h | h
          · exact (A.out.2.2.2.2.2.2 y h).ext A.out.2.2.1
          · subst h; exact A.out.2.2.2.2.1
      case measure => simp [intOf]; omega
    · obtain ⟨gs, l, left, F, G, s2, f2, n2, sl, g2, hgs, gl, hok, hleft⟩ := hG.out
      have hjn : j = ts.length := by omega
      have hn0 : 0 < gs.length := by omega
      have hn30 : gs.length ≤ 30 := by omega
      rcases sl with ⟨_, rfl, _⟩ | ⟨b, cap', rfl, rfl, ro⟩
      · simp at hn0
      have hr := round_any k gs.length wr (by omega) (by omega) hk1 hk2
      have hgl : (gs.length : Int) = j := by omega
      obtain ⟨ix, hix⟩ := Int.eq_ofNat_of_zero_le (Int.emod_nonneg k (show (gs.length : Int) ≠ 0 by omega))
      have hixl := Int.emod_lt_of_pos k (show 0 < (gs.length : Int) by omega)
      rw [hix] at hr hixl
      have hixl' : ix < gs.length := by omega
      have cx := ro.cell (enc_get hixl')
      have c0 := ro.cell (enc_get hn0)
      have ox := hok gs[ix] (List.getElem_mem hixl')
      have oy := hok gs[0] (List.getElem_mem hn0)
      have R := Lib.hid (show Rg w pb b cap' gs l left wr from ⟨F, s2, f2, n2, ro, (g2 b (by simp)).1, gl⟩)
      obtain ⟨kp, l2, left2, p1, p2, p3, p4, p5, p6⟩ := plus_room (left := left) gl ox oy (by omega)
      obtain ⟨kt, l3, left3, t1, t2, t3, t4, t5, t6⟩ := times_room (gl.ext p2) (ox.ext p2) (oy.ext p2) (left := left2) (by omega)
      obtain ⟨sm, l4, left4, accs, u1, u2, u3, u4, u5⟩ := sum_room gs 0 l3 left3 ((gl.ext p2).ext t2) (.inl rfl) (fun g hg => ((hok g hg).ext p2).ext t2) (by omega)
      generalize hX : gs[ix] = x at *
      generalize hY : gs[0] = y at *
      have E := Lib.hid (And.intro (plus_zero_r gl ox (left := left)) (And.intro (plus_zero_l gl ox (left := left)) (And.intro (times_one_r gl ox (left := left)) (And.intro (times_one_l gl ox (left := left)) (And.intro (times_zero_r gl ox (left := left)) (star_zero gl (left := left)))))))
      have P := Lib.hid (And.intro p1 (And.intro p2 p6))
      have T := Lib.hid (And.intro t1 (And.intro t2 t6))
      have U := Lib.hid (And.intro u1 (And.intro u2 (And.intro u3 (And.intro u4 u5))))
      have HN := Lib.hid hn30
      clear p1 p2 p3 p4 p5 p6 t1 t2 t3 t4 t5 t6 u1 u2 u3 u4 u5 gl s2 f2 n2 ro g2 ox oy hX hY hix hG hgs HX HB O hleft hk1 hk2 hjn hgl h0 hok
      go_wp2_with fail
      refine hr.mono ?_
      rintro e w2 ⟨rfl, rfl⟩
      go_wp2_with fail
      refine (R.out.plus x 0 E.out.1 (Ext.refl _)).mono ?_
      clear R
      rintro e wn ⟨rfl, hR⟩
      have R := Lib.hid hR
      clear hR
      go_wp2_with fail
      refine (R.out.plus 0 x E.out.2.1 (Ext.refl _)).mono ?_
      clear R
      rintro e wn ⟨rfl, hR⟩
      have R := Lib.hid hR
      clear hR
      go_wp2_with fail
      refine (R.out.times x 1 E.out.2.2.1 (Ext.refl _)).mono ?_
      clear R
      rintro e wn ⟨rfl, hR⟩
      have R := Lib.hid hR
      clear hR
      go_wp2_with fail
      refine (R.out.times 1 x E.out.2.2.2.1 (Ext.refl _)).mono ?_
      clear R
      rintro e wn ⟨rfl, hR⟩
      have R := Lib.hid hR
      clear hR
      go_wp2_with fail
      refine (R.out.times x 0 E.out.2.2.2.2.1 (Ext.refl _)).mono ?_
      clear R
      rintro e wn ⟨rfl, hR⟩
      have R := Lib.hid hR
      clear hR
      go_wp2_with fail
      refine (R.out.star 0 E.out.2.2.2.2.2 (Ext.refl _)).mono ?_
      clear R
      rintro e wn ⟨rfl, hR⟩
      have R := Lib.hid hR
      clear hR
      go_wp2_with fail
      refine (R.out.plus x y P.out.1 P.out.2.1).mono ?_
      clear R
      rintro e wn ⟨rfl, hR⟩
      have R := Lib.hid hR
      clear hR
      go_wp2_with fail
      refine (R.out.plus y x (P.out.2.2 _ _ (Ext.refl _)).2 (Ext.refl _)).mono ?_
      clear R
      rintro e wn ⟨rfl, hR⟩
      have R := Lib.hid hR
      clear hR
      go_wp2_with fail
      refine (R.out.times x y T.out.1 T.out.2.1).mono ?_
      clear R
      rintro e wn ⟨rfl, hR⟩
      have R := Lib.hid hR
      clear hR
      go_wp2_with fail
      refine (R.out.times y x (T.out.2.2 _ _ (Ext.refl _)).2 (Ext.refl _)).mono ?_
      clear R
      rintro e wn ⟨rfl, hR⟩
      have R := Lib.hid hR
      clear hR
      go_wp2_with fail
      refine (R.out.sum (by have := HN.out; omega) U.out.1 U.out.2.1).mono ?_
      clear R
      rintro e wn ⟨rfl, hR⟩
      have R := Lib.hid hR
      clear hR
      go_wp2_with fail
      have U4 := U.out.2.2.2.1
      have U3 := U.out.2.2.1
      have R4 := R
      clear R
      go_loopw [34, 35] (fun v i wr => ∃ j : Nat, j ≤ gs.length ∧ i = .int .i64 j ∧ v = .int .i64 (accs j) ∧ Hid (Rg w pb b cap' gs l4 left4 wr)) (fun _ i _ => gs.length - (intOf i).toNat)
      case atStart => exact ⟨0, Nat.zero_le _, rfl, by rw [U3], R4.out⟩
      case round =>
        rename World => wr2
        obtain ⟨j2, hj2, rfl, rfl, R5⟩ := hrel
        clear U3
        by_cases hlt2 : j2 < gs.length
        · obtain ⟨b2, off2, hb2, hc2⟩ := R5.out.rd.at hlt2
          cases hb2
          simp only [Nat.zero_add] at hc2
          have hp := R5.out.plus (accs j2) gs[j2] (U.out.2.2.2.2 l4 left4 (Ext.refl _) j2 hlt2) (Ext.refl _)
          have HP := Lib.hid hp
          clear hp U4
          generalize gs[j2] = y2 at *
          go_wp2_with fail
          refine HP.out.mono ?_
          rintro e w5 ⟨rfl, hR⟩
          have R6 := Lib.hid hR
          clear hR
          go_wp2_with fail
          go_roundw
          case rel => exact ⟨j2 + 1, by omega, by go_num, rfl, R6.out⟩
          case measure => simp [intOf]; omega
        · have hjn2 : j2 = gs.length := by omega
          subst hjn2
          rw [U4]
          clear U4
          go_wp2_with fail
          refine (R5.out.sum0).mono ?_
          rintro e w5 ⟨rfl, hR⟩
          have fr5 : Frame [] w w5 := by obtain ⟨F, _, f, _⟩ := hR; exact f
          clear hR
          go_wp2_with fail
          refine (awake13 _).mono ?_
          rintro e w6 ⟨rfl, f6⟩
          go_wp2_with fail
          go_ret
          exact ⟨rfl, fr5.trans1 f6⟩

end Go.Proofs.Ytolkmapdbilolaa
