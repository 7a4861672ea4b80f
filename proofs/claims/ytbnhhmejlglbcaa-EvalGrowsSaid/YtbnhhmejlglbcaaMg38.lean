/- tansyref1.Add. (printed by gen_nadd1.py) -/
import Derived.Test.YtbnhhmejlglbcaaMg37
import Derived.Test.YtbnhhmejlglbcaaMg31
namespace Go.Proofs.Ytbnhhmejlglbcaa
open Go.RowKit
set_option linter.unusedSimpArgs false
set_option linter.unusedVariables false

theorem AddS.next' {xs ys zs : List Int} {i : Nat} {c x y : Int} (h : AddS xs ys zs i c) (bx : 0 ≤ x ∧ x < 4294967296) (hx : xs[i]? = some x ∨ (xs.length ≤ i ∧ x = 0)) (hb : 0 ≤ y ∧ y < 4294967296) (hy : ys[i]? = some y ∨ (ys.length ≤ i ∧ y = 0)) :
    AddS xs ys (zs ++ [(c + x + y) % 4294967296]) (i + 1) ((c + x + y) / 4294967296) := by
  rcases hx with hx | ⟨hl, rfl⟩
  · exact h.next hx bx hb hy
  · have hc := h.c0
    refine ⟨by simp [h.len], h.ok.app (by intro d hd; simp at hd; subst hd; omega), by omega, ?_⟩
    have ey : valD (ys.take (i + 1)) = valD (ys.take i) + BB ^ i * y.toNat := by
      rcases hy with hy | ⟨hl, rfl⟩
      · exact valD_take_next hy
      · rw [valD_take_over hl]; simp
    rw [valD_take_over hl, ey, valD_app, h.len]
    have hv := h.val
    have e1 : ((c + 0 + y) % 4294967296).toNat + BB * ((c + 0 + y) / 4294967296).toNat = c.toNat + y.toNat := by unfold BB; omega
    have e2 : valD [(c + 0 + y) % 4294967296] = ((c + 0 + y) % 4294967296).toNat := by simp [valD]
    rw [e2, Nat.pow_succ, Nat.mul_assoc]
    have e3 : BB ^ i * ((c + 0 + y) % 4294967296).toNat + BB ^ i * (BB * ((c + 0 + y) / 4294967296).toNat) = BB ^ i * c.toNat + BB ^ i * y.toNat := by
      rw [← Nat.mul_add, e1, Nat.mul_add]
    omega
theorem AddS.done' {xs ys zs : List Int} {i : Nat} (h : AddS xs ys zs i 0) (hx : xs.length ≤ i) (hy : ys.length ≤ i) : valD zs = valD xs + valD ys := by
  have hv := h.val
  rw [List.take_of_length_le hx, List.take_of_length_le hy] at hv
  simpa using hv

set_option maxHeartbeats 4000000 in
set_option maxRecDepth 100000 in
theorem add1_any (u v : Value) (x y : Option Nat) (w : World) (h1 : NR w u x) (h2 : NR w v y) (l1 : Sz x) (l2 : Sz y) :
    Calls Try.prog 75 #[u, v] w (NREnd (addO x y) w) := by
  have C1 := Lib.hid (fun w' (f : Frame [] w w') => clean_any u x w' (h1.frame f) l1)
  have C2 := Lib.hid (fun w' (f : Frame [] w w') => clean_any v y w' (h2.frame f) l2)
  obtain ⟨i, a, n, c, rfl⟩ := h1.form
  obtain ⟨j, b, m, d, rfl⟩ := h2.form
  clear h1 h2
  obtain ⟨B0, B1, F⟩ := boxes2 w #[.bool i, .slice a n c] #[.bool j, .slice b m d]
  have B2 := Blk.new ((w.alloc (.cells #[.bool i, .slice a n c] 36)).alloc (.cells #[.bool j, .slice b m d] 36)) 36 #[.bool false, .slice none 0 0]
  have B0 := B0.alloc (.cells #[.bool false, .slice none 0 0] 36)
  have B1 := Lib.hid (B1.alloc (.cells #[.bool false, .slice none 0 0] 36))
  have FF := Lib.hid (F.trans1 (Frame.alloc [] _ (.cells #[.bool false, .slice none 0 0] 36)))
  simp only [World.size_alloc] at B2
  have B2 := Lib.hid B2
  obtain ⟨r, hr⟩ : ∃ r, addO x y = r := ⟨_, rfl⟩
  rw [hr]
  have HR := Lib.hid hr
  clear hr F
  go_enter Try.func75, Try.ntmps75
  go_upto_region 1 with fail
  generalize ((w.alloc (.cells #[.bool i, .slice a n c] 36)).alloc (.cells #[.bool j, .slice b m d] 36)).alloc (.cells #[.bool false, .slice none 0 0] 36) = w1 at *
  obtain ⟨b2, hb2⟩ : ∃ b2, w.heap.size + 1 + 1 = b2 := ⟨_, rfl⟩
  rw [hb2] at B2 ⊢
  have hbw : w.heap.size ≤ b2 := by omega
  have x0 := B0.at 0 rfl
  have x1 := B0.at 1 rfl
  clear B0
  go_wp2_with fail
  refine (C1.out _ FF.out).mono ?_
  rintro e w2 ⟨v1, rfl, n1, f2⟩
  obtain ⟨i1, a1, k1, c1, rfl⟩ := n1.form
  go_upto_region 2 with fail
  have BX := Lib.hid (Blk.new w2 36 #[.bool i1, .slice a1 k1 c1])
  have f3 := f2.trans1 (Frame.alloc [] w2 (.cells #[.bool i1, .slice a1 k1 c1] 36))
  have N1 := Lib.hid (n1.frame (Frame.alloc [] w2 (.cells #[.bool i1, .slice a1 k1 c1] 36)))
  have hb5 : b2 < w2.heap.size := (B2.out.frame f2 (by simp)).lt
  generalize w2.alloc (.cells #[.bool i1, .slice a1 k1 c1] 36) = w3 at *
  generalize w2.heap.size = b5 at *
  have y0 := (B1.out.frame f3 (by simp)).at 0 rfl
  have y1 := (B1.out.frame f3 (by simp)).at 1 rfl
  have F3 := Lib.hid (FF.out.trans1 f3)
  have B2 := Lib.hid (B2.out.frame f3 (by simp))
  clear f2 f3 n1 x0 x1
  go_wp2_with fail
  refine (C2.out _ F3.out).mono ?_
  rintro e w4 ⟨v2, rfl, n2, f4⟩
  obtain ⟨i2, a2, k2, c2, rfl⟩ := n2.form
  go_upto_region 3 with fail
  have BY := Lib.hid (Blk.new w4 36 #[.bool i2, .slice a2 k2 c2])
  have f5 := f4.trans1 (Frame.alloc [] w4 (.cells #[.bool i2, .slice a2 k2 c2] 36))
  have N2 := Lib.hid (n2.frame (Frame.alloc [] w4 (.cells #[.bool i2, .slice a2 k2 c2] 36)))
  generalize w4.alloc (.cells #[.bool i2, .slice a2 k2 c2] 36) = w5 at *
  generalize w4.heap.size = b6 at *
  have N1 := Lib.hid (N1.out.frame f5)
  have BX := Lib.hid (BX.out.frame f5 (by simp))
  have B2 := Lib.hid (B2.out.frame f5 (by simp))
  have F5 := Lib.hid (F3.out.trans1 f5)
  clear f4 f5 n2 y0 y1 C1 C2 B1 F3
  have x0 := BX.out.at 0 rfl
  have y0 := BY.out.at 0 rfl
  by_cases hinf : (i1 || i2) = true
  · have e : r = none := by
      rw [← HR.out]
      cases x with
      | none => cases y <;> rfl
      | some p =>
        obtain ⟨a9, c9, e1, -⟩ := N1.out
        simp at e1
        obtain ⟨rfl, -⟩ := e1
        cases y with
        | none => rfl
        | some q =>
          obtain ⟨a9, c9, e1, -⟩ := N2.out
          simp at e1
          obtain ⟨rfl, -⟩ := e1
          simp at hinf
    subst e
    have u0 := B2.out.at 0 rfl
    have u1 := B2.out.at 1 rfl
    have zf := B2.out.frozen
    have B9 := Lib.hid (putN B2.out (.bool true) (.slice none 0 0))
    have F9 := Lib.hid (putN_frame hbw F5.out (.bool true) (.slice none 0 0))
    cases i1 with
    | true =>
      clear hinf
      go_wp2_with fail
      refine bodyPost_ret (results_cell_row rfl _ _ b2 36 #[.bool true, .slice none 0 0] (0, 0) _ rfl B9.out Try.underlying36 rfl (by kernel_rfl)) rfl ?_
      exact ⟨_, rfl, rfl, F9.out⟩
    | false =>
      obtain rfl : i2 = true := by simpa using hinf
      clear hinf
      go_wp2_with fail
      refine bodyPost_ret (results_cell_row rfl _ _ b2 36 #[.bool true, .slice none 0 0] (0, 0) _ rfl B9.out Try.underlying36 rfl (by kernel_rfl)) rfl ?_
      exact ⟨_, rfl, rfl, F9.out⟩
  · simp at hinf
    obtain ⟨rfl, rfl⟩ := hinf
    cases x with
    | none => have e1 : (.agg #[.bool false, .slice a1 k1 c1] : Value) = .agg #[.bool true, .slice none 0 0] := N1.out; simp at e1
    | some p =>
    cases y with
    | none => have e1 : (.agg #[.bool false, .slice a2 k2 c2] : Value) = .agg #[.bool true, .slice none 0 0] := N2.out; simp at e1
    | some q =>
    obtain ⟨a9, c9, e1, d1⟩ := N1.out
    simp at e1
    obtain ⟨rfl, rfl, rfl⟩ := e1
    obtain ⟨a8, c8, e1, d2⟩ := N2.out
    simp at e1
    obtain ⟨rfl, rfl, rfl⟩ := e1
    have hl1 : (digs p).length ≤ 100000000 := l1
    have hl2 : (digs q).length ≤ 100000000 := l2
    have hc1 : (digs p).length ≤ c1 := d1.2.1
    have hc2 : (digs q).length ≤ c2 := d2.2.1
    have D1 := Lib.hid d1
    have D2 := Lib.hid d2
    have HV := Lib.hid (And.intro (valD_digs p) (valD_digs q))
    have HO := Lib.hid (And.intro (digs_ok p) (digs_ok q))
    obtain ⟨P, hP⟩ : ∃ P, (digs p).length = P := ⟨_, rfl⟩
    obtain ⟨Q, hQ⟩ : ∃ Q, (digs q).length = Q := ⟨_, rfl⟩
    have x1 := BX.out.at 1 rfl
    have y1 := BY.out.at 1 rfl
    rw [hP] at hl1 hc1 x1
    rw [hQ] at hl2 hc2 y1
    have HP := Lib.hid hP
    have HQ := Lib.hid hQ
    have e : r = some (p + q) := HR.out.symm
    subst e
    clear d1 d2 N1 N2 l1 l2 hP hQ HR
    generalize digs p = xs at *
    generalize digs q = ys at *
    have x0h := x0
    clear x0h
    go_wp2_with fail
    clear x0 x1 y0 y1
    go_loopw [7, 8, 9] (fun sv cv iv wr => ∃ (c : Int) (i : Nat) (zs : List Int) (G : List Nat), (i ≤ max P Q ∨ (i = max P Q + 1 ∧ c = 0)) ∧ cv = .int .u64 c ∧ iv = .int .i64 i ∧ Hid (AddS xs ys zs i c ∧ Sl wr 77 1 encD sv zs G ∧ (∀ x ∈ G, w5.heap.size ≤ x) ∧ Frame [] w5 wr)) (fun _ _ iv _ => (max P Q + 1 - intOf iv).toNat)
    case atStart => exact ⟨0, 0, [], [], .inl (Nat.zero_le _), rfl, rfl, Lib.hid ⟨AddS.start xs ys, Sl.nil _ _ _ _, by simp, Frame.refl _ _⟩⟩
    case round =>
      rename World => wr
      obtain ⟨c, i, zs, G, hi, rfl, rfl, hR⟩ := hrel
      obtain ⟨vA, vc, hv⟩ := hR.out.2.1.form
      subst hv
      have hA := hR.out.1
      have hlen := hA.len
      have hc := hA.c0
      have x1 := (BX.out.frame hR.out.2.2.2 (by simp)).at 1 rfl
      have y1 := (BY.out.frame hR.out.2.2.2 (by simp)).at 1 rfl
      rw [HP.out] at x1
      rw [HQ.out] at y1
      by_cases hgo : i < max P Q ∨ 0 < c
      · have him : i ≤ max P Q := by omega
        have hi9 : i ≤ 200000000 := by omega
        have dgo : (decide ((i : Int) < max (P : Int) (Q : Int)) = true) ∨ (decide ((i : Int) < max (P : Int) (Q : Int)) = false ∧ decide ((0 : Int) < c) = true) := by
          by_cases h : i < max P Q
          · exact .inl (decide_eq_true (by omega))
          · exact .inr ⟨decide_eq_false (by omega), decide_eq_true (by omega)⟩
        by_cases hip : i < P
        · have dp : decide ((i : Int) < P) = true := decide_eq_true (by omega)
          have hx : xs[i]? = some (xs[i]'(by rw [HP.out]; omega)) := List.getElem?_eq_getElem _
          generalize xs[i]'(by rw [HP.out]; omega) = x at hx
          have bx := HO.out.1.at hx
          obtain ⟨b3, o3, rfl, z3⟩ := D1.out.cell hx
          have z3 := hR.out.2.2.2.cell z3 (by simp)
          have d1 : decide ((i : Int) < max (P : Int) (Q : Int)) = true := decide_eq_true (by omega)
          clear dgo
          by_cases hiq : i < Q
          · have dq : decide ((i : Int) < Q) = true := decide_eq_true (by omega)
            have hy : ys[i]? = some (ys[i]'(by rw [HQ.out]; omega)) := List.getElem?_eq_getElem _
            generalize ys[i]'(by rw [HQ.out]; omega) = y at hy
            have bY := HO.out.2.at hy
            obtain ⟨b4, o4, rfl, z4⟩ := D2.out.cell hy
            have z4 := hR.out.2.2.2.cell z4 (by simp)
            have NX := hA.next' (x := x) (y := y) bx (.inl hx) bY (.inl hy)
            have w1 : IntKind.u64.wrap (c + x) = c + x := IntWalk.u64_in _ (by omega)
            have w2 : IntKind.u64.wrap (c + x + y) = c + x + y := IntWalk.u64_in _ (by omega)
            have w3 : IntKind.u32.wrap (c + x + y) = (c + x + y) % 4294967296 := IntKind.wrap_u32 _
            have NX := Lib.hid NX
            have hnc : i + 1 ≤ max P Q ∨ (i + 1 = max P Q + 1 ∧ (c + x + y) / 4294967296 = 0) := by omega
            have SL := Lib.hid (And.intro hR.out.2.1 (And.intro hR.out.2.2.1 hR.out.2.2.2))
            have hzb : zs.length ≤ 200000000 := by omega
            clear hR hA hgo hi him hlen hx hy
            go_wp2_with (at_builtin; refine wpList_append_sl _ rfl (.tmp 62) (.tmp 65) 34 rfl 77 1 4 _ encD Try.underlying34 infoD rfl (by omega) (.slice vA zs.length vc) zs G rfl (SL.out.1.frame0 (by (repeat first | assumption | exact Frame.refl _ _ | refine Frame.trans1 ?_ (Frame.alloc _ _ _) | refine Frame.trans1 ?_ (Frame.drew _ _) | refine Frame.trans1 ?_ (Frame.drewN _ _ _)))) _ 1 1 [(c + x + y) % 4294967296] _ rfl (Blk.new _ _ _) rfl rfl encD_len encD_one (by omega) (by omega) (by omega) ?_; intro b' cap' w8 sl8 f8 hb8; have f8w : Frame [] w5 w8 := (SL.out.2.2.trans1 (show Frame [] wr _ from by (repeat first | assumption | exact Frame.refl _ _ | refine Frame.trans1 ?_ (Frame.alloc _ _ _) | refine Frame.trans1 ?_ (Frame.drew _ _) | refine Frame.trans1 ?_ (Frame.drewN _ _ _)))).trans f8 (fun x hx => .inr (SL.out.2.1 x hx)); have hbw8 : w5.heap.size ≤ b' := (by rcases hb8 with h | h; exact SL.out.2.1 _ h; have := SL.out.2.2.size; rw [h]; simp; omega); have R8 := Lib.hid (And.intro sl8 (And.intro f8w hbw8)); clear sl8 f8w f8 hb8 hbw8)
            go_roundw
            case rel => exact ⟨_, i + 1, zs ++ [(c + x + y) % 4294967296], [b'], hnc, by first | trivial | rfl, by first | trivial | rfl | go_num, Lib.hid ⟨NX.out, R8.out.1, fun x hx => by simp at hx; subst hx; exact R8.out.2.2, R8.out.2.1⟩⟩
            case measure => first | (simp [intOf]; done) | (simp [intOf]; omega)
          · have dq : decide ((i : Int) < Q) = false := decide_eq_false (by omega)
            have NX := hA.next' (x := x) (y := 0) bx (.inl hx) (by omega) (.inr ⟨by rw [HQ.out]; omega, rfl⟩)
            rw [show c + x + 0 = c + x from Int.add_zero _] at NX
            have w1 : IntKind.u64.wrap (c + x) = c + x := IntWalk.u64_in _ (by omega)
            have w3 : IntKind.u32.wrap (c + x) = (c + x) % 4294967296 := IntKind.wrap_u32 _
            have NX := Lib.hid NX
            have hnc : i + 1 ≤ max P Q ∨ (i + 1 = max P Q + 1 ∧ (c + x) / 4294967296 = 0) := by omega
            have SL := Lib.hid (And.intro hR.out.2.1 (And.intro hR.out.2.2.1 hR.out.2.2.2))
            have hzb : zs.length ≤ 200000000 := by omega
            clear hR hA hgo hi him hlen hx
            go_wp2_with (at_builtin; refine wpList_append_sl _ rfl (.tmp 62) (.tmp 65) 34 rfl 77 1 4 _ encD Try.underlying34 infoD rfl (by omega) (.slice vA zs.length vc) zs G rfl (SL.out.1.frame0 (by (repeat first | assumption | exact Frame.refl _ _ | refine Frame.trans1 ?_ (Frame.alloc _ _ _) | refine Frame.trans1 ?_ (Frame.drew _ _) | refine Frame.trans1 ?_ (Frame.drewN _ _ _)))) _ 1 1 [(c + x) % 4294967296] _ rfl (Blk.new _ _ _) rfl rfl encD_len encD_one (by omega) (by omega) (by omega) ?_; intro b' cap' w8 sl8 f8 hb8; have f8w : Frame [] w5 w8 := (SL.out.2.2.trans1 (show Frame [] wr _ from by (repeat first | assumption | exact Frame.refl _ _ | refine Frame.trans1 ?_ (Frame.alloc _ _ _) | refine Frame.trans1 ?_ (Frame.drew _ _) | refine Frame.trans1 ?_ (Frame.drewN _ _ _)))).trans f8 (fun x hx => .inr (SL.out.2.1 x hx)); have hbw8 : w5.heap.size ≤ b' := (by rcases hb8 with h | h; exact SL.out.2.1 _ h; have := SL.out.2.2.size; rw [h]; simp; omega); have R8 := Lib.hid (And.intro sl8 (And.intro f8w hbw8)); clear sl8 f8w f8 hb8 hbw8)
            go_roundw
            case rel => exact ⟨_, i + 1, zs ++ [(c + x) % 4294967296], [b'], hnc, by first | trivial | rfl, by first | trivial | rfl | go_num, Lib.hid ⟨NX.out, R8.out.1, fun x hx => by simp at hx; subst hx; exact R8.out.2.2, R8.out.2.1⟩⟩
            case measure => first | (simp [intOf]; done) | (simp [intOf]; omega)
        · have dp : decide ((i : Int) < P) = false := decide_eq_false (by omega)
          rcases dgo with d1 | ⟨d1, d2⟩
          · skip
            by_cases hiq : i < Q
            · have dq : decide ((i : Int) < Q) = true := decide_eq_true (by omega)
              have hy : ys[i]? = some (ys[i]'(by rw [HQ.out]; omega)) := List.getElem?_eq_getElem _
              generalize ys[i]'(by rw [HQ.out]; omega) = y at hy
              have bY := HO.out.2.at hy
              obtain ⟨b4, o4, rfl, z4⟩ := D2.out.cell hy
              have z4 := hR.out.2.2.2.cell z4 (by simp)
              have NX := hA.next' (x := 0) (y := y) (by omega) (.inr ⟨by rw [HP.out]; omega, rfl⟩) bY (.inl hy)
              rw [show c + 0 = c from Int.add_zero c] at NX
              have w2 : IntKind.u64.wrap (c + y) = c + y := IntWalk.u64_in _ (by omega)
              have w3 : IntKind.u32.wrap (c + y) = (c + y) % 4294967296 := IntKind.wrap_u32 _
              have NX := Lib.hid NX
              have hnc : i + 1 ≤ max P Q ∨ (i + 1 = max P Q + 1 ∧ (c + y) / 4294967296 = 0) := by omega
              have SL := Lib.hid (And.intro hR.out.2.1 (And.intro hR.out.2.2.1 hR.out.2.2.2))
              have hzb : zs.length ≤ 200000000 := by omega
              clear hR hA hgo hi him hlen hy
              go_wp2_with (at_builtin; refine wpList_append_sl _ rfl (.tmp 62) (.tmp 65) 34 rfl 77 1 4 _ encD Try.underlying34 infoD rfl (by omega) (.slice vA zs.length vc) zs G rfl (SL.out.1.frame0 (by (repeat first | assumption | exact Frame.refl _ _ | refine Frame.trans1 ?_ (Frame.alloc _ _ _) | refine Frame.trans1 ?_ (Frame.drew _ _) | refine Frame.trans1 ?_ (Frame.drewN _ _ _)))) _ 1 1 [(c + y) % 4294967296] _ rfl (Blk.new _ _ _) rfl rfl encD_len encD_one (by omega) (by omega) (by omega) ?_; intro b' cap' w8 sl8 f8 hb8; have f8w : Frame [] w5 w8 := (SL.out.2.2.trans1 (show Frame [] wr _ from by (repeat first | assumption | exact Frame.refl _ _ | refine Frame.trans1 ?_ (Frame.alloc _ _ _) | refine Frame.trans1 ?_ (Frame.drew _ _) | refine Frame.trans1 ?_ (Frame.drewN _ _ _)))).trans f8 (fun x hx => .inr (SL.out.2.1 x hx)); have hbw8 : w5.heap.size ≤ b' := (by rcases hb8 with h | h; exact SL.out.2.1 _ h; have := SL.out.2.2.size; rw [h]; simp; omega); have R8 := Lib.hid (And.intro sl8 (And.intro f8w hbw8)); clear sl8 f8w f8 hb8 hbw8)
              go_roundw
              case rel => exact ⟨_, i + 1, zs ++ [(c + y) % 4294967296], [b'], hnc, by first | trivial | rfl, by first | trivial | rfl | go_num, Lib.hid ⟨NX.out, R8.out.1, fun x hx => by simp at hx; subst hx; exact R8.out.2.2, R8.out.2.1⟩⟩
              case measure => first | (simp [intOf]; done) | (simp [intOf]; omega)
            · have dq : decide ((i : Int) < Q) = false := decide_eq_false (by omega)
              have NX := hA.next' (x := 0) (y := 0) (by omega) (.inr ⟨by rw [HP.out]; omega, rfl⟩) (by omega) (.inr ⟨by rw [HQ.out]; omega, rfl⟩)
              rw [show c + 0 = c from Int.add_zero c] at NX
              rw [show c + 0 = c from Int.add_zero _] at NX
              have w3 : IntKind.u32.wrap (c) = (c) % 4294967296 := IntKind.wrap_u32 _
              have NX := Lib.hid NX
              have hnc : i + 1 ≤ max P Q ∨ (i + 1 = max P Q + 1 ∧ (c) / 4294967296 = 0) := by omega
              have SL := Lib.hid (And.intro hR.out.2.1 (And.intro hR.out.2.2.1 hR.out.2.2.2))
              have hzb : zs.length ≤ 200000000 := by omega
              clear hR hA hgo hi him hlen
              go_wp2_with (at_builtin; refine wpList_append_sl _ rfl (.tmp 62) (.tmp 65) 34 rfl 77 1 4 _ encD Try.underlying34 infoD rfl (by omega) (.slice vA zs.length vc) zs G rfl (SL.out.1.frame0 (by (repeat first | assumption | exact Frame.refl _ _ | refine Frame.trans1 ?_ (Frame.alloc _ _ _) | refine Frame.trans1 ?_ (Frame.drew _ _) | refine Frame.trans1 ?_ (Frame.drewN _ _ _)))) _ 1 1 [(c) % 4294967296] _ rfl (Blk.new _ _ _) rfl rfl encD_len encD_one (by omega) (by omega) (by omega) ?_; intro b' cap' w8 sl8 f8 hb8; have f8w : Frame [] w5 w8 := (SL.out.2.2.trans1 (show Frame [] wr _ from by (repeat first | assumption | exact Frame.refl _ _ | refine Frame.trans1 ?_ (Frame.alloc _ _ _) | refine Frame.trans1 ?_ (Frame.drew _ _) | refine Frame.trans1 ?_ (Frame.drewN _ _ _)))).trans f8 (fun x hx => .inr (SL.out.2.1 x hx)); have hbw8 : w5.heap.size ≤ b' := (by rcases hb8 with h | h; exact SL.out.2.1 _ h; have := SL.out.2.2.size; rw [h]; simp; omega); have R8 := Lib.hid (And.intro sl8 (And.intro f8w hbw8)); clear sl8 f8w f8 hb8 hbw8)
              go_roundw
              case rel => exact ⟨_, i + 1, zs ++ [(c) % 4294967296], [b'], hnc, by first | trivial | rfl, by first | trivial | rfl | go_num, Lib.hid ⟨NX.out, R8.out.1, fun x hx => by simp at hx; subst hx; exact R8.out.2.2, R8.out.2.1⟩⟩
              case measure => first | (simp [intOf]; done) | (simp [intOf]; omega)
          · skip
            by_cases hiq : i < Q
            · have dq : decide ((i : Int) < Q) = true := decide_eq_true (by omega)
              have hy : ys[i]? = some (ys[i]'(by rw [HQ.out]; omega)) := List.getElem?_eq_getElem _
              generalize ys[i]'(by rw [HQ.out]; omega) = y at hy
              have bY := HO.out.2.at hy
              obtain ⟨b4, o4, rfl, z4⟩ := D2.out.cell hy
              have z4 := hR.out.2.2.2.cell z4 (by simp)
              have NX := hA.next' (x := 0) (y := y) (by omega) (.inr ⟨by rw [HP.out]; omega, rfl⟩) bY (.inl hy)
              rw [show c + 0 = c from Int.add_zero c] at NX
              have w2 : IntKind.u64.wrap (c + y) = c + y := IntWalk.u64_in _ (by omega)
              have w3 : IntKind.u32.wrap (c + y) = (c + y) % 4294967296 := IntKind.wrap_u32 _
              have NX := Lib.hid NX
              have hnc : i + 1 ≤ max P Q ∨ (i + 1 = max P Q + 1 ∧ (c + y) / 4294967296 = 0) := by omega
              have SL := Lib.hid (And.intro hR.out.2.1 (And.intro hR.out.2.2.1 hR.out.2.2.2))
              have hzb : zs.length ≤ 200000000 := by omega
              clear hR hA hgo hi him hlen hy
              go_wp2_with (at_builtin; refine wpList_append_sl _ rfl (.tmp 62) (.tmp 65) 34 rfl 77 1 4 _ encD Try.underlying34 infoD rfl (by omega) (.slice vA zs.length vc) zs G rfl (SL.out.1.frame0 (by (repeat first | assumption | exact Frame.refl _ _ | refine Frame.trans1 ?_ (Frame.alloc _ _ _) | refine Frame.trans1 ?_ (Frame.drew _ _) | refine Frame.trans1 ?_ (Frame.drewN _ _ _)))) _ 1 1 [(c + y) % 4294967296] _ rfl (Blk.new _ _ _) rfl rfl encD_len encD_one (by omega) (by omega) (by omega) ?_; intro b' cap' w8 sl8 f8 hb8; have f8w : Frame [] w5 w8 := (SL.out.2.2.trans1 (show Frame [] wr _ from by (repeat first | assumption | exact Frame.refl _ _ | refine Frame.trans1 ?_ (Frame.alloc _ _ _) | refine Frame.trans1 ?_ (Frame.drew _ _) | refine Frame.trans1 ?_ (Frame.drewN _ _ _)))).trans f8 (fun x hx => .inr (SL.out.2.1 x hx)); have hbw8 : w5.heap.size ≤ b' := (by rcases hb8 with h | h; exact SL.out.2.1 _ h; have := SL.out.2.2.size; rw [h]; simp; omega); have R8 := Lib.hid (And.intro sl8 (And.intro f8w hbw8)); clear sl8 f8w f8 hb8 hbw8)
              go_roundw
              case rel => exact ⟨_, i + 1, zs ++ [(c + y) % 4294967296], [b'], hnc, by first | trivial | rfl, by first | trivial | rfl | go_num, Lib.hid ⟨NX.out, R8.out.1, fun x hx => by simp at hx; subst hx; exact R8.out.2.2, R8.out.2.1⟩⟩
              case measure => first | (simp [intOf]; done) | (simp [intOf]; omega)
            · have dq : decide ((i : Int) < Q) = false := decide_eq_false (by omega)
              have NX := hA.next' (x := 0) (y := 0) (by omega) (.inr ⟨by rw [HP.out]; omega, rfl⟩) (by omega) (.inr ⟨by rw [HQ.out]; omega, rfl⟩)
              rw [show c + 0 = c from Int.add_zero c] at NX
              rw [show c + 0 = c from Int.add_zero _] at NX
              have w3 : IntKind.u32.wrap (c) = (c) % 4294967296 := IntKind.wrap_u32 _
              have NX := Lib.hid NX
              have hnc : i + 1 ≤ max P Q ∨ (i + 1 = max P Q + 1 ∧ (c) / 4294967296 = 0) := by omega
              have SL := Lib.hid (And.intro hR.out.2.1 (And.intro hR.out.2.2.1 hR.out.2.2.2))
              have hzb : zs.length ≤ 200000000 := by omega
              clear hR hA hgo hi him hlen
              go_wp2_with (at_builtin; refine wpList_append_sl _ rfl (.tmp 62) (.tmp 65) 34 rfl 77 1 4 _ encD Try.underlying34 infoD rfl (by omega) (.slice vA zs.length vc) zs G rfl (SL.out.1.frame0 (by (repeat first | assumption | exact Frame.refl _ _ | refine Frame.trans1 ?_ (Frame.alloc _ _ _) | refine Frame.trans1 ?_ (Frame.drew _ _) | refine Frame.trans1 ?_ (Frame.drewN _ _ _)))) _ 1 1 [(c) % 4294967296] _ rfl (Blk.new _ _ _) rfl rfl encD_len encD_one (by omega) (by omega) (by omega) ?_; intro b' cap' w8 sl8 f8 hb8; have f8w : Frame [] w5 w8 := (SL.out.2.2.trans1 (show Frame [] wr _ from by (repeat first | assumption | exact Frame.refl _ _ | refine Frame.trans1 ?_ (Frame.alloc _ _ _) | refine Frame.trans1 ?_ (Frame.drew _ _) | refine Frame.trans1 ?_ (Frame.drewN _ _ _)))).trans f8 (fun x hx => .inr (SL.out.2.1 x hx)); have hbw8 : w5.heap.size ≤ b' := (by rcases hb8 with h | h; exact SL.out.2.1 _ h; have := SL.out.2.2.size; rw [h]; simp; omega); have R8 := Lib.hid (And.intro sl8 (And.intro f8w hbw8)); clear sl8 f8w f8 hb8 hbw8)
              go_roundw
              case rel => exact ⟨_, i + 1, zs ++ [(c) % 4294967296], [b'], hnc, by first | trivial | rfl, by first | trivial | rfl | go_num, Lib.hid ⟨NX.out, R8.out.1, fun x hx => by simp at hx; subst hx; exact R8.out.2.2, R8.out.2.1⟩⟩
              case measure => first | (simp [intOf]; done) | (simp [intOf]; omega)
      · have d1 : decide ((i : Int) < max (P : Int) (Q : Int)) = false := decide_eq_false (by omega)
        have d2 : decide ((0 : Int) < c) = false := decide_eq_false (by omega)
        have hc0 : c = 0 := by omega
        subst hc0
        have hv := hA.done' (by rw [HP.out]; omega) (by rw [HQ.out]; omega)
        rw [HV.out.1, HV.out.2] at hv
        have dz := sl_dr hR.out.2.1 hA.ok
        have CL := clean_dr vA vc zs wr dz (by omega)
        rw [hv] at CL
        have CL := Lib.hid CL
        have B9 := Lib.hid (B2.out.frame hR.out.2.2.2 (by simp))
        have F9 := Lib.hid (F5.out.trans1 hR.out.2.2.2)
        clear hgo hi hA hR hv dz hc hlen
        go_wp2_with fail
        refine CL.out.mono ?_
        rintro e w8 ⟨v3, rfl, n3, f8⟩
        obtain ⟨i3, a3, k3, c3, rfl⟩ := n3.form
        have B8 := B9.out.frame f8 (by simp)
        have u0 := B8.at 0 rfl
        have u1 := B8.at 1 rfl
        have zf := B8.frozen
        have B7 := Lib.hid (putN B8 (.bool i3) (.slice a3 k3 c3))
        have F7 := Lib.hid (putN_frame hbw (F9.out.trans1 f8) (.bool i3) (.slice a3 k3 c3))
        have KD := Lib.hid (KeepD.blk (show Frame [b2] w8 _ from (Frame.setCell (S := [b2]) w8 ⟨b2, 0, none⟩ (.bool i3) (by simp)).trans1 (Frame.setCell _ ⟨b2, 1, none⟩ (.slice a3 k3 c3) (by simp))) B8 (by decide))
        have NV := Lib.hid (n3.kept KD.out)
        clear B8 f8 n3 CL
        go_wp2_with fail
        refine bodyPost_ret (results_cell_row rfl _ _ b2 36 #[.bool i3, .slice a3 k3 c3] (0, 0) _ rfl B7.out Try.underlying36 rfl (by kernel_rfl)) rfl ?_
        exact ⟨_, rfl, NV.out, F7.out⟩
end Go.Proofs.Ytbnhhmejlglbcaa

