/- One step, done to both graphs. A step keeps what a graph has to be. A step keeps all that holds of a graph. -/
import Derived.Test.YtolkmapdbilolaaMg34
namespace Go.Proofs.Ytolkmapdbilolaa
open Go.RowKit
set_option linter.unusedSimpArgs false
set_option linter.unusedVariables false

/-- What a step leaves. -/
def opG (s : St10) (ns : List Nv) (es : List Ed) (g : Int) : List Nv × List Ed × Int :=
  if s.kind = 1 then ((vAddNode ns s.id).2, es, g) else if s.kind = 2 then ((vDropNode ns es s.id).2, es, g) else if s.kind = 3 then ((vLabel ns s.id s.name).2, es, g)
  else if s.kind = 4 then ((vSet ns s.id s.name s.val).2, es, g) else if s.kind = 5 then (ns, (vAdd ns es g s.id s.name s.tgt).2.1, (vAdd ns es g s.id s.name s.tgt).2.2) else if s.kind = 6 then (ns, (vDrop es s.id).2, g) else (ns, es, g)

set_option maxHeartbeats 8000000 in
set_option maxRecDepth 100000 in
theorem does10_any {w0 w : World} {pb rb : Nat} {ns : List Nv} {es : List Ed} {g : Int} (s : St10) (h : BG w0 [] pb rb ns es g ns es (g + 1) w) (hv : VOk ns) (he : EOk es g) (hn : s.name.size ≤ 9223372036854775807) (hl : s.val.size ≤ 9223372036854775807) :
    Calls Try.prog 45 #[.pointer (some ⟨pb, 0, none⟩), .pointer (some ⟨rb, 0, none⟩), .agg #[.int .i64 s.kind, .int .i64 s.id, .int .i64 s.tgt, .string s.name, .string s.val]] w fun e w' => e = .returned (.bool true) ∧ BG w0 [] pb rb (opG s ns es g).1 (opG s ns es g).2.1 (opG s ns es g).2.2 (opG s ns es g).1 (opG s ns es g).2.1 ((opG s ns es g).2.2 + 1) w' := by
  obtain ⟨kind, id, tgt, name, val⟩ := s
  simp only at hn hl ⊢
  have ha := h.alloc (.cells #[.int .i64 kind, .int .i64 id, .int .i64 tgt, .string name, .string val] 79)
  have HA := Lib.hid ha
  clear h ha
  by_cases k1 : kind = 1
  · have e : opG ⟨kind, id, tgt, name, val⟩ ns es g = ((vAddNode ns id).2, es, g) := by simp [opG, k1]
    rw [e]
    have hv1 : ∀ w1, Frame [] (w.alloc (.cells #[.int .i64 kind, .int .i64 id, .int .i64 tgt, .string name, .string val] 79)) w1 → Calls Try.prog 28 #[.pointer (some ⟨pb, 0, none⟩), .int .i64 id] w1 fun e w' => e = .returned (.int .i64 (vAddNode ns id).1) ∧ BG w0 [w.heap.size] pb rb (vAddNode ns id).2 es g ns es (g + 1) w' ∧ Blk w' w.heap.size 79 #[.int .i64 kind, .int .i64 id, .int .i64 tgt, .string name, .string val] := fun w1 f =>
      ((HA.out.quiet f).addNode hv id).mono fun e w' ⟨h1, h2, h3⟩ => ⟨h1, h2, ((Blk.new _ _ _).frame f (by simp)).kept h3 (by simp)⟩
    have hv2 : ∀ w1, BG w0 [w.heap.size] pb rb (vAddNode ns id).2 es g ns es (g + 1) w1 → Blk w1 w.heap.size 79 #[.int .i64 kind, .int .i64 id, .int .i64 tgt, .string name, .string val] → Calls Try.prog 91 #[.pointer (some ⟨rb, 0, none⟩), .int .i64 id] w1 fun e w' => e = .returned (.int .i64 (vAddNode ns id).1) ∧ BG w0 [w.heap.size] pb rb (vAddNode ns id).2 es g (vAddNode ns id).2 es (g + 1) w' ∧ Blk w' w.heap.size 79 #[.int .i64 kind, .int .i64 id, .int .i64 tgt, .string name, .string val] := fun w1 h b =>
      (h.raddNode hv id).mono fun e w' ⟨h1, h2, h3⟩ => ⟨h1, h2, b.kept h3 (by simp)⟩
    have HV := Lib.hid hv1
    have HR := Lib.hid hv2
    clear hv1 hv2 e HA hv he
    generalize vAddNode ns id = q at *
    obtain ⟨q1, q2⟩ := q
    subst k1
    have x1 : (w.alloc (.cells #[.int .i64 1, .int .i64 id, .int .i64 tgt, .string name, .string val] 79)).cell? ⟨w.heap.size, 1, none⟩ = some (.int .i64 id) := (Blk.new _ _ _).at 1 rfl
    have x2 : (w.alloc (.cells #[.int .i64 1, .int .i64 id, .int .i64 tgt, .string name, .string val] 79)).cell? ⟨w.heap.size, 2, none⟩ = some (.int .i64 tgt) := (Blk.new _ _ _).at 2 rfl
    have x3 : (w.alloc (.cells #[.int .i64 1, .int .i64 id, .int .i64 tgt, .string name, .string val] 79)).cell? ⟨w.heap.size, 3, none⟩ = some (.string name) := (Blk.new _ _ _).at 3 rfl
    have x4 : (w.alloc (.cells #[.int .i64 1, .int .i64 id, .int .i64 tgt, .string name, .string val] 79)).cell? ⟨w.heap.size, 4, none⟩ = some (.string val) := (Blk.new _ _ _).at 4 rfl
    go_enter Try.func45, Try.ntmps45
    go_wp2_with fail
    go_region_held3 (fun w' => w'.cell? ⟨w.heap.size, 1, none⟩ = some (.int .i64 id) ∧ w'.cell? ⟨w.heap.size, 2, none⟩ = some (.int .i64 tgt) ∧ w'.cell? ⟨w.heap.size, 3, none⟩ = some (.string name) ∧ w'.cell? ⟨w.heap.size, 4, none⟩ = some (.string val)) (go_keep)
      ((first
        | (go_at_call 28; refine (HV.out _ (by (repeat first | assumption | exact Frame.refl _ _ | refine Frame.trans1 ?_ (Frame.alloc _ _ _) | refine Frame.trans1 ?_ (Frame.drew _ _) | refine Frame.trans1 ?_ (Frame.drewN _ _ _)))).mono ?_; rintro e w1 ⟨rfl, b1, p1⟩; have y1 := p1.at 1 rfl; have y2 := p1.at 2 rfl; have y3 := p1.at 3 rfl; have y4 := p1.at 4 rfl; have B1 := Lib.hid b1; have P1 := Lib.hid p1; clear b1 p1)
        | (go_at_call 91; refine (HR.out _ (B1.out.quiet (by (repeat first | assumption | exact Frame.refl _ _ | refine Frame.trans1 ?_ (Frame.alloc _ _ _) | refine Frame.trans1 ?_ (Frame.drew _ _) | refine Frame.trans1 ?_ (Frame.drewN _ _ _)))) (P1.out.frame (show Frame [] w1 _ from by (repeat first | assumption | exact Frame.refl _ _ | refine Frame.trans1 ?_ (Frame.alloc _ _ _) | refine Frame.trans1 ?_ (Frame.drew _ _) | refine Frame.trans1 ?_ (Frame.drewN _ _ _))) (by simp))).mono ?_; rintro e w2 ⟨rfl, b2, p2⟩; have z1 := p2.at 1 rfl; have z2 := p2.at 2 rfl; have z3 := p2.at 3 rfl; have z4 := p2.at 4 rfl; have B2 := Lib.hid b2; clear b2 p2)))
    all_goals
      go_wp2_with fail
      go_ret
      exact ⟨by simp, (B2.out.quiet (by (repeat first | assumption | exact Frame.refl _ _ | refine Frame.trans1 ?_ (Frame.alloc _ _ _) | refine Frame.trans1 ?_ (Frame.drew _ _) | refine Frame.trans1 ?_ (Frame.drewN _ _ _)))).less (by simp)⟩
  by_cases k2 : kind = 2
  · have e : opG ⟨kind, id, tgt, name, val⟩ ns es g = ((vDropNode ns es id).2, es, g) := by simp [opG, k2]
    rw [e]
    have hv1 : ∀ w1, Frame [] (w.alloc (.cells #[.int .i64 kind, .int .i64 id, .int .i64 tgt, .string name, .string val] 79)) w1 → Calls Try.prog 33 #[.pointer (some ⟨pb, 0, none⟩), .int .i64 id] w1 fun e w' => e = .returned (.int .i64 (vDropNode ns es id).1) ∧ BG w0 [w.heap.size] pb rb (vDropNode ns es id).2 es g ns es (g + 1) w' ∧ Blk w' w.heap.size 79 #[.int .i64 kind, .int .i64 id, .int .i64 tgt, .string name, .string val] := fun w1 f =>
      ((HA.out.quiet f).dropNode hv he id).mono fun e w' ⟨h1, h2, h3⟩ => ⟨h1, h2, ((Blk.new _ _ _).frame f (by simp)).kept h3 (by simp)⟩
    have hv2 : ∀ w1, BG w0 [w.heap.size] pb rb (vDropNode ns es id).2 es g ns es (g + 1) w1 → Blk w1 w.heap.size 79 #[.int .i64 kind, .int .i64 id, .int .i64 tgt, .string name, .string val] → Calls Try.prog 92 #[.pointer (some ⟨rb, 0, none⟩), .int .i64 id] w1 fun e w' => e = .returned (.int .i64 (vDropNode ns es id).1) ∧ BG w0 [w.heap.size] pb rb (vDropNode ns es id).2 es g (vDropNode ns es id).2 es (g + 1) w' ∧ Blk w' w.heap.size 79 #[.int .i64 kind, .int .i64 id, .int .i64 tgt, .string name, .string val] := fun w1 h b =>
      (h.rdropNode hv he id).mono fun e w' ⟨h1, h2, h3⟩ => ⟨h1, h2, b.kept h3 (by simp)⟩
    have HV := Lib.hid hv1
    have HR := Lib.hid hv2
    clear hv1 hv2 e HA hv he
    generalize vDropNode ns es id = q at *
    obtain ⟨q1, q2⟩ := q
    subst k2
    have x1 : (w.alloc (.cells #[.int .i64 2, .int .i64 id, .int .i64 tgt, .string name, .string val] 79)).cell? ⟨w.heap.size, 1, none⟩ = some (.int .i64 id) := (Blk.new _ _ _).at 1 rfl
    have x2 : (w.alloc (.cells #[.int .i64 2, .int .i64 id, .int .i64 tgt, .string name, .string val] 79)).cell? ⟨w.heap.size, 2, none⟩ = some (.int .i64 tgt) := (Blk.new _ _ _).at 2 rfl
    have x3 : (w.alloc (.cells #[.int .i64 2, .int .i64 id, .int .i64 tgt, .string name, .string val] 79)).cell? ⟨w.heap.size, 3, none⟩ = some (.string name) := (Blk.new _ _ _).at 3 rfl
    have x4 : (w.alloc (.cells #[.int .i64 2, .int .i64 id, .int .i64 tgt, .string name, .string val] 79)).cell? ⟨w.heap.size, 4, none⟩ = some (.string val) := (Blk.new _ _ _).at 4 rfl
    go_enter Try.func45, Try.ntmps45
    go_wp2_with fail
    go_region_held3 (fun w' => w'.cell? ⟨w.heap.size, 1, none⟩ = some (.int .i64 id) ∧ w'.cell? ⟨w.heap.size, 2, none⟩ = some (.int .i64 tgt) ∧ w'.cell? ⟨w.heap.size, 3, none⟩ = some (.string name) ∧ w'.cell? ⟨w.heap.size, 4, none⟩ = some (.string val)) (go_keep)
      ((first
        | (go_at_call 33; refine (HV.out _ (by (repeat first | assumption | exact Frame.refl _ _ | refine Frame.trans1 ?_ (Frame.alloc _ _ _) | refine Frame.trans1 ?_ (Frame.drew _ _) | refine Frame.trans1 ?_ (Frame.drewN _ _ _)))).mono ?_; rintro e w1 ⟨rfl, b1, p1⟩; have y1 := p1.at 1 rfl; have y2 := p1.at 2 rfl; have y3 := p1.at 3 rfl; have y4 := p1.at 4 rfl; have B1 := Lib.hid b1; have P1 := Lib.hid p1; clear b1 p1)
        | (go_at_call 92; refine (HR.out _ (B1.out.quiet (by (repeat first | assumption | exact Frame.refl _ _ | refine Frame.trans1 ?_ (Frame.alloc _ _ _) | refine Frame.trans1 ?_ (Frame.drew _ _) | refine Frame.trans1 ?_ (Frame.drewN _ _ _)))) (P1.out.frame (show Frame [] w1 _ from by (repeat first | assumption | exact Frame.refl _ _ | refine Frame.trans1 ?_ (Frame.alloc _ _ _) | refine Frame.trans1 ?_ (Frame.drew _ _) | refine Frame.trans1 ?_ (Frame.drewN _ _ _))) (by simp))).mono ?_; rintro e w2 ⟨rfl, b2, p2⟩; have z1 := p2.at 1 rfl; have z2 := p2.at 2 rfl; have z3 := p2.at 3 rfl; have z4 := p2.at 4 rfl; have B2 := Lib.hid b2; clear b2 p2)))
    all_goals
      go_wp2_with fail
      go_ret
      exact ⟨by simp, (B2.out.quiet (by (repeat first | assumption | exact Frame.refl _ _ | refine Frame.trans1 ?_ (Frame.alloc _ _ _) | refine Frame.trans1 ?_ (Frame.drew _ _) | refine Frame.trans1 ?_ (Frame.drewN _ _ _)))).less (by simp)⟩
  by_cases k3 : kind = 3
  · have e : opG ⟨kind, id, tgt, name, val⟩ ns es g = ((vLabel ns id name).2, es, g) := by simp [opG, k3]
    rw [e]
    have hv1 : ∀ w1, Frame [] (w.alloc (.cells #[.int .i64 kind, .int .i64 id, .int .i64 tgt, .string name, .string val] 79)) w1 → Calls Try.prog 36 #[.pointer (some ⟨pb, 0, none⟩), .int .i64 id, .string name] w1 fun e w' => e = .returned (.int .i64 (vLabel ns id name).1) ∧ BG w0 [w.heap.size] pb rb (vLabel ns id name).2 es g ns es (g + 1) w' ∧ Blk w' w.heap.size 79 #[.int .i64 kind, .int .i64 id, .int .i64 tgt, .string name, .string val] := fun w1 f =>
      ((HA.out.quiet f).label hv id name hn).mono fun e w' ⟨h1, h2, h3⟩ => ⟨h1, h2, ((Blk.new _ _ _).frame f (by simp)).kept h3 (by simp)⟩
    have hv2 : ∀ w1, BG w0 [w.heap.size] pb rb (vLabel ns id name).2 es g ns es (g + 1) w1 → Blk w1 w.heap.size 79 #[.int .i64 kind, .int .i64 id, .int .i64 tgt, .string name, .string val] → Calls Try.prog 93 #[.pointer (some ⟨rb, 0, none⟩), .int .i64 id, .string name] w1 fun e w' => e = .returned (.int .i64 (vLabel ns id name).1) ∧ BG w0 [w.heap.size] pb rb (vLabel ns id name).2 es g (vLabel ns id name).2 es (g + 1) w' ∧ Blk w' w.heap.size 79 #[.int .i64 kind, .int .i64 id, .int .i64 tgt, .string name, .string val] := fun w1 h b =>
      (h.rlabel hv id name hn).mono fun e w' ⟨h1, h2, h3⟩ => ⟨h1, h2, b.kept h3 (by simp)⟩
    have HV := Lib.hid hv1
    have HR := Lib.hid hv2
    clear hv1 hv2 e HA hv he
    generalize vLabel ns id name = q at *
    obtain ⟨q1, q2⟩ := q
    subst k3
    have x1 : (w.alloc (.cells #[.int .i64 3, .int .i64 id, .int .i64 tgt, .string name, .string val] 79)).cell? ⟨w.heap.size, 1, none⟩ = some (.int .i64 id) := (Blk.new _ _ _).at 1 rfl
    have x2 : (w.alloc (.cells #[.int .i64 3, .int .i64 id, .int .i64 tgt, .string name, .string val] 79)).cell? ⟨w.heap.size, 2, none⟩ = some (.int .i64 tgt) := (Blk.new _ _ _).at 2 rfl
    have x3 : (w.alloc (.cells #[.int .i64 3, .int .i64 id, .int .i64 tgt, .string name, .string val] 79)).cell? ⟨w.heap.size, 3, none⟩ = some (.string name) := (Blk.new _ _ _).at 3 rfl
    have x4 : (w.alloc (.cells #[.int .i64 3, .int .i64 id, .int .i64 tgt, .string name, .string val] 79)).cell? ⟨w.heap.size, 4, none⟩ = some (.string val) := (Blk.new _ _ _).at 4 rfl
    go_enter Try.func45, Try.ntmps45
    go_wp2_with fail
    go_region_held3 (fun w' => w'.cell? ⟨w.heap.size, 1, none⟩ = some (.int .i64 id) ∧ w'.cell? ⟨w.heap.size, 2, none⟩ = some (.int .i64 tgt) ∧ w'.cell? ⟨w.heap.size, 3, none⟩ = some (.string name) ∧ w'.cell? ⟨w.heap.size, 4, none⟩ = some (.string val)) (go_keep)
      ((first
        | (go_at_call 36; refine (HV.out _ (by (repeat first | assumption | exact Frame.refl _ _ | refine Frame.trans1 ?_ (Frame.alloc _ _ _) | refine Frame.trans1 ?_ (Frame.drew _ _) | refine Frame.trans1 ?_ (Frame.drewN _ _ _)))).mono ?_; rintro e w1 ⟨rfl, b1, p1⟩; have y1 := p1.at 1 rfl; have y2 := p1.at 2 rfl; have y3 := p1.at 3 rfl; have y4 := p1.at 4 rfl; have B1 := Lib.hid b1; have P1 := Lib.hid p1; clear b1 p1)
        | (go_at_call 93; refine (HR.out _ (B1.out.quiet (by (repeat first | assumption | exact Frame.refl _ _ | refine Frame.trans1 ?_ (Frame.alloc _ _ _) | refine Frame.trans1 ?_ (Frame.drew _ _) | refine Frame.trans1 ?_ (Frame.drewN _ _ _)))) (P1.out.frame (show Frame [] w1 _ from by (repeat first | assumption | exact Frame.refl _ _ | refine Frame.trans1 ?_ (Frame.alloc _ _ _) | refine Frame.trans1 ?_ (Frame.drew _ _) | refine Frame.trans1 ?_ (Frame.drewN _ _ _))) (by simp))).mono ?_; rintro e w2 ⟨rfl, b2, p2⟩; have z1 := p2.at 1 rfl; have z2 := p2.at 2 rfl; have z3 := p2.at 3 rfl; have z4 := p2.at 4 rfl; have B2 := Lib.hid b2; clear b2 p2)))
    all_goals
      go_wp2_with fail
      go_ret
      exact ⟨by simp, (B2.out.quiet (by (repeat first | assumption | exact Frame.refl _ _ | refine Frame.trans1 ?_ (Frame.alloc _ _ _) | refine Frame.trans1 ?_ (Frame.drew _ _) | refine Frame.trans1 ?_ (Frame.drewN _ _ _)))).less (by simp)⟩
  by_cases k4 : kind = 4
  · have e : opG ⟨kind, id, tgt, name, val⟩ ns es g = ((vSet ns id name val).2, es, g) := by simp [opG, k4]
    rw [e]
    have hv1 : ∀ w1, Frame [] (w.alloc (.cells #[.int .i64 kind, .int .i64 id, .int .i64 tgt, .string name, .string val] 79)) w1 → Calls Try.prog 37 #[.pointer (some ⟨pb, 0, none⟩), .int .i64 id, .string name, .string val] w1 fun e w' => e = .returned (.int .i64 (vSet ns id name val).1) ∧ BG w0 [w.heap.size] pb rb (vSet ns id name val).2 es g ns es (g + 1) w' ∧ Blk w' w.heap.size 79 #[.int .i64 kind, .int .i64 id, .int .i64 tgt, .string name, .string val] := fun w1 f =>
      ((HA.out.quiet f).set hv id name val hn hl).mono fun e w' ⟨h1, h2, h3⟩ => ⟨h1, h2, ((Blk.new _ _ _).frame f (by simp)).kept h3 (by simp)⟩
    have hv2 : ∀ w1, BG w0 [w.heap.size] pb rb (vSet ns id name val).2 es g ns es (g + 1) w1 → Blk w1 w.heap.size 79 #[.int .i64 kind, .int .i64 id, .int .i64 tgt, .string name, .string val] → Calls Try.prog 94 #[.pointer (some ⟨rb, 0, none⟩), .int .i64 id, .string name, .string val] w1 fun e w' => e = .returned (.int .i64 (vSet ns id name val).1) ∧ BG w0 [w.heap.size] pb rb (vSet ns id name val).2 es g (vSet ns id name val).2 es (g + 1) w' ∧ Blk w' w.heap.size 79 #[.int .i64 kind, .int .i64 id, .int .i64 tgt, .string name, .string val] := fun w1 h b =>
      (h.rset hv id name val hn hl).mono fun e w' ⟨h1, h2, h3⟩ => ⟨h1, h2, b.kept h3 (by simp)⟩
    have HV := Lib.hid hv1
    have HR := Lib.hid hv2
    clear hv1 hv2 e HA hv he
    generalize vSet ns id name val = q at *
    obtain ⟨q1, q2⟩ := q
    subst k4
    have x1 : (w.alloc (.cells #[.int .i64 4, .int .i64 id, .int .i64 tgt, .string name, .string val] 79)).cell? ⟨w.heap.size, 1, none⟩ = some (.int .i64 id) := (Blk.new _ _ _).at 1 rfl
    have x2 : (w.alloc (.cells #[.int .i64 4, .int .i64 id, .int .i64 tgt, .string name, .string val] 79)).cell? ⟨w.heap.size, 2, none⟩ = some (.int .i64 tgt) := (Blk.new _ _ _).at 2 rfl
    have x3 : (w.alloc (.cells #[.int .i64 4, .int .i64 id, .int .i64 tgt, .string name, .string val] 79)).cell? ⟨w.heap.size, 3, none⟩ = some (.string name) := (Blk.new _ _ _).at 3 rfl
    have x4 : (w.alloc (.cells #[.int .i64 4, .int .i64 id, .int .i64 tgt, .string name, .string val] 79)).cell? ⟨w.heap.size, 4, none⟩ = some (.string val) := (Blk.new _ _ _).at 4 rfl
    go_enter Try.func45, Try.ntmps45
    go_wp2_with fail
    go_region_held3 (fun w' => w'.cell? ⟨w.heap.size, 1, none⟩ = some (.int .i64 id) ∧ w'.cell? ⟨w.heap.size, 2, none⟩ = some (.int .i64 tgt) ∧ w'.cell? ⟨w.heap.size, 3, none⟩ = some (.string name) ∧ w'.cell? ⟨w.heap.size, 4, none⟩ = some (.string val)) (go_keep)
      ((first
        | (go_at_call 37; refine (HV.out _ (by (repeat first | assumption | exact Frame.refl _ _ | refine Frame.trans1 ?_ (Frame.alloc _ _ _) | refine Frame.trans1 ?_ (Frame.drew _ _) | refine Frame.trans1 ?_ (Frame.drewN _ _ _)))).mono ?_; rintro e w1 ⟨rfl, b1, p1⟩; have y1 := p1.at 1 rfl; have y2 := p1.at 2 rfl; have y3 := p1.at 3 rfl; have y4 := p1.at 4 rfl; have B1 := Lib.hid b1; have P1 := Lib.hid p1; clear b1 p1)
        | (go_at_call 94; refine (HR.out _ (B1.out.quiet (by (repeat first | assumption | exact Frame.refl _ _ | refine Frame.trans1 ?_ (Frame.alloc _ _ _) | refine Frame.trans1 ?_ (Frame.drew _ _) | refine Frame.trans1 ?_ (Frame.drewN _ _ _)))) (P1.out.frame (show Frame [] w1 _ from by (repeat first | assumption | exact Frame.refl _ _ | refine Frame.trans1 ?_ (Frame.alloc _ _ _) | refine Frame.trans1 ?_ (Frame.drew _ _) | refine Frame.trans1 ?_ (Frame.drewN _ _ _))) (by simp))).mono ?_; rintro e w2 ⟨rfl, b2, p2⟩; have z1 := p2.at 1 rfl; have z2 := p2.at 2 rfl; have z3 := p2.at 3 rfl; have z4 := p2.at 4 rfl; have B2 := Lib.hid b2; clear b2 p2)))
    all_goals
      go_wp2_with fail
      go_ret
      exact ⟨by simp, (B2.out.quiet (by (repeat first | assumption | exact Frame.refl _ _ | refine Frame.trans1 ?_ (Frame.alloc _ _ _) | refine Frame.trans1 ?_ (Frame.drew _ _) | refine Frame.trans1 ?_ (Frame.drewN _ _ _)))).less (by simp)⟩
  by_cases k6 : kind = 6
  · have e : opG ⟨kind, id, tgt, name, val⟩ ns es g = (ns, (vDrop es id).2, g) := by simp [opG, k6]
    rw [e]
    have hv1 : ∀ w1, Frame [] (w.alloc (.cells #[.int .i64 kind, .int .i64 id, .int .i64 tgt, .string name, .string val] 79)) w1 → Calls Try.prog 31 #[.pointer (some ⟨pb, 0, none⟩), .int .i64 id] w1 fun e w' => e = .returned (.int .i64 (vDrop es id).1) ∧ BG w0 [w.heap.size] pb rb ns (vDrop es id).2 g ns es (g + 1) w' ∧ Blk w' w.heap.size 79 #[.int .i64 kind, .int .i64 id, .int .i64 tgt, .string name, .string val] := fun w1 f =>
      ((HA.out.quiet f).drop he id).mono fun e w' ⟨h1, h2, h3⟩ => ⟨h1, h2, ((Blk.new _ _ _).frame f (by simp)).kept h3 (by simp)⟩
    have hv2 : ∀ w1, BG w0 [w.heap.size] pb rb ns (vDrop es id).2 g ns es (g + 1) w1 → Blk w1 w.heap.size 79 #[.int .i64 kind, .int .i64 id, .int .i64 tgt, .string name, .string val] → Calls Try.prog 96 #[.pointer (some ⟨rb, 0, none⟩), .int .i64 id] w1 fun e w' => e = .returned (.int .i64 (vDrop es id).1) ∧ BG w0 [w.heap.size] pb rb ns (vDrop es id).2 g ns (vDrop es id).2 (g + 1) w' ∧ Blk w' w.heap.size 79 #[.int .i64 kind, .int .i64 id, .int .i64 tgt, .string name, .string val] := fun w1 h b =>
      (h.rdrop he id).mono fun e w' ⟨h1, h2, h3⟩ => ⟨h1, h2, b.kept h3 (by simp)⟩
    have HV := Lib.hid hv1
    have HR := Lib.hid hv2
    clear hv1 hv2 e HA hv he
    generalize vDrop es id = q at *
    obtain ⟨q1, q2⟩ := q
    subst k6
    have x1 : (w.alloc (.cells #[.int .i64 6, .int .i64 id, .int .i64 tgt, .string name, .string val] 79)).cell? ⟨w.heap.size, 1, none⟩ = some (.int .i64 id) := (Blk.new _ _ _).at 1 rfl
    have x2 : (w.alloc (.cells #[.int .i64 6, .int .i64 id, .int .i64 tgt, .string name, .string val] 79)).cell? ⟨w.heap.size, 2, none⟩ = some (.int .i64 tgt) := (Blk.new _ _ _).at 2 rfl
    have x3 : (w.alloc (.cells #[.int .i64 6, .int .i64 id, .int .i64 tgt, .string name, .string val] 79)).cell? ⟨w.heap.size, 3, none⟩ = some (.string name) := (Blk.new _ _ _).at 3 rfl
    have x4 : (w.alloc (.cells #[.int .i64 6, .int .i64 id, .int .i64 tgt, .string name, .string val] 79)).cell? ⟨w.heap.size, 4, none⟩ = some (.string val) := (Blk.new _ _ _).at 4 rfl
    go_enter Try.func45, Try.ntmps45
    go_wp2_with fail
    go_region_held3 (fun w' => w'.cell? ⟨w.heap.size, 1, none⟩ = some (.int .i64 id) ∧ w'.cell? ⟨w.heap.size, 2, none⟩ = some (.int .i64 tgt) ∧ w'.cell? ⟨w.heap.size, 3, none⟩ = some (.string name) ∧ w'.cell? ⟨w.heap.size, 4, none⟩ = some (.string val)) (go_keep)
      ((first
        | (go_at_call 31; refine (HV.out _ (by (repeat first | assumption | exact Frame.refl _ _ | refine Frame.trans1 ?_ (Frame.alloc _ _ _) | refine Frame.trans1 ?_ (Frame.drew _ _) | refine Frame.trans1 ?_ (Frame.drewN _ _ _)))).mono ?_; rintro e w1 ⟨rfl, b1, p1⟩; have y1 := p1.at 1 rfl; have y2 := p1.at 2 rfl; have y3 := p1.at 3 rfl; have y4 := p1.at 4 rfl; have B1 := Lib.hid b1; have P1 := Lib.hid p1; clear b1 p1)
        | (go_at_call 96; refine (HR.out _ (B1.out.quiet (by (repeat first | assumption | exact Frame.refl _ _ | refine Frame.trans1 ?_ (Frame.alloc _ _ _) | refine Frame.trans1 ?_ (Frame.drew _ _) | refine Frame.trans1 ?_ (Frame.drewN _ _ _)))) (P1.out.frame (show Frame [] w1 _ from by (repeat first | assumption | exact Frame.refl _ _ | refine Frame.trans1 ?_ (Frame.alloc _ _ _) | refine Frame.trans1 ?_ (Frame.drew _ _) | refine Frame.trans1 ?_ (Frame.drewN _ _ _))) (by simp))).mono ?_; rintro e w2 ⟨rfl, b2, p2⟩; have z1 := p2.at 1 rfl; have z2 := p2.at 2 rfl; have z3 := p2.at 3 rfl; have z4 := p2.at 4 rfl; have B2 := Lib.hid b2; clear b2 p2)))
    all_goals
      go_wp2_with fail
      go_ret
      exact ⟨by simp, (B2.out.quiet (by (repeat first | assumption | exact Frame.refl _ _ | refine Frame.trans1 ?_ (Frame.alloc _ _ _) | refine Frame.trans1 ?_ (Frame.drew _ _) | refine Frame.trans1 ?_ (Frame.drewN _ _ _)))).less (by simp)⟩
  by_cases k5 : kind = 5
  · have e : opG ⟨kind, id, tgt, name, val⟩ ns es g = (ns, (vAdd ns es g id name tgt).2.1, (vAdd ns es g id name tgt).2.2) := by simp [opG, k5]
    rw [e]
    have hv1 : Calls Try.prog 29 #[.pointer (some ⟨pb, 0, none⟩), .int .i64 id, .string name, .int .i64 tgt] (w.alloc (.cells #[.int .i64 kind, .int .i64 id, .int .i64 tgt, .string name, .string val] 79)) fun e w' => e = .returned (.tuple #[.int .i64 (vAdd ns es g id name tgt).1.1, .int .i64 (vAdd ns es g id name tgt).1.2]) ∧ BG w0 [w.heap.size] pb rb ns (vAdd ns es g id name tgt).2.1 (vAdd ns es g id name tgt).2.2 ns es (g + 1) w' ∧ Blk w' w.heap.size 79 #[.int .i64 kind, .int .i64 id, .int .i64 tgt, .string name, .string val] :=
      (HA.out.add hv he id name tgt hn).mono fun e w' ⟨h1, h2, h3⟩ => ⟨h1, h2, (Blk.new _ _ _).kept h3 (by simp)⟩
    have hv2 : ∀ w1, BG w0 [w.heap.size] pb rb ns (vAdd ns es g id name tgt).2.1 (vAdd ns es g id name tgt).2.2 ns es (g + 1) w1 → Blk w1 w.heap.size 79 #[.int .i64 kind, .int .i64 id, .int .i64 tgt, .string name, .string val] → Calls Try.prog 95 #[.pointer (some ⟨rb, 0, none⟩), .int .i64 id, .string name, .int .i64 tgt] w1 fun e w' => e = .returned (.tuple #[.int .i64 (vAdd ns es g id name tgt).1.1, .int .i64 (vAdd ns es g id name tgt).1.2]) ∧ BG w0 [w.heap.size] pb rb ns (vAdd ns es g id name tgt).2.1 (vAdd ns es g id name tgt).2.2 ns (vAdd ns es g id name tgt).2.1 ((vAdd ns es g id name tgt).2.2 + 1) w' ∧ Blk w' w.heap.size 79 #[.int .i64 kind, .int .i64 id, .int .i64 tgt, .string name, .string val] := fun w1 h b =>
      (h.radd hv he id name tgt hn).mono fun e w' ⟨h1, h2, h3⟩ => ⟨h1, h2, b.kept h3 (by simp)⟩
    have HV := Lib.hid hv1
    have HR := Lib.hid hv2
    clear hv1 hv2 e HA hv he
    generalize vAdd ns es g id name tgt = q at *
    obtain ⟨⟨q1, q2⟩, q3, q4⟩ := q
    subst k5
    go_enter Try.func45, Try.ntmps45
    go_wp2_with fail
    refine HV.out.mono ?_
    rintro e w1 ⟨rfl, b1, p1⟩
    have y1 := p1.at 1 rfl
    have y2 := p1.at 2 rfl
    have y3 := p1.at 3 rfl
    have B1 := Lib.hid b1
    have P1 := Lib.hid p1
    clear b1 p1
    go_wp2_with fail
    refine (HR.out _ B1.out P1.out).mono ?_
    rintro e w2 ⟨rfl, b2, p2⟩
    have B2 := Lib.hid b2
    clear b2 p2 y1 y2 y3
    go_wp2_with fail
    go_ret
    exact ⟨by simp, (B2.out.quiet (by (repeat first | assumption | exact Frame.refl _ _ | refine Frame.trans1 ?_ (Frame.alloc _ _ _) | refine Frame.trans1 ?_ (Frame.drew _ _) | refine Frame.trans1 ?_ (Frame.drewN _ _ _)))).less (by simp)⟩
  · have e : opG ⟨kind, id, tgt, name, val⟩ ns es g = (ns, es, g) := by simp [opG, k1, k2, k3, k4, k5, k6]
    rw [e]
    have d1 : (kind == 1) = false := by simp [k1]
    have d2 : (kind == 2) = false := by simp [k2]
    have d3 : (kind == 3) = false := by simp [k3]
    have d4 : (kind == 4) = false := by simp [k4]
    have d5 : (kind == 5) = false := by simp [k5]
    have d6 : (kind == 6) = false := by simp [k6]
    clear e hv he k1 k2 k3 k4 k5 k6
    go_enter Try.func45, Try.ntmps45
    go_wp2_with fail
    go_ret
    exact ⟨by simp, (HA.out.quiet (by (repeat first | assumption | exact Frame.refl _ _ | refine Frame.trans1 ?_ (Frame.alloc _ _ _) | refine Frame.trans1 ?_ (Frame.drew _ _) | refine Frame.trans1 ?_ (Frame.drewN _ _ _)))).less (by simp)⟩
end Go.Proofs.Ytolkmapdbilolaa

namespace Go.Proofs.Ytolkmapdbilolaa
open Go.RowKit
set_option linter.unusedSimpArgs false
set_option linter.unusedVariables false

theorem opG_ok (s : St10) {ns : List Nv} {es : List Ed} {g : Int} (hv : VOk ns) (he : EOk es g) : VOk (opG s ns es g).1 ∧ EOk (opG s ns es g).2.1 (opG s ns es g).2.2 := by
  unfold opG
  by_cases k1 : s.kind = 1
  · rw [if_pos k1]; exact ⟨hv.addNode _, he⟩
  rw [if_neg k1]
  by_cases k2 : s.kind = 2
  · rw [if_pos k2]; exact ⟨hv.dropNode _ _, he⟩
  rw [if_neg k2]
  by_cases k3 : s.kind = 3
  · rw [if_pos k3]; exact ⟨hv.label _ _, he⟩
  rw [if_neg k3]
  by_cases k4 : s.kind = 4
  · rw [if_pos k4]; exact ⟨hv.set _ _ _, he⟩
  rw [if_neg k4]
  by_cases k5 : s.kind = 5
  · rw [if_pos k5]; exact ⟨hv, he.add _ _ _ _⟩
  rw [if_neg k5]
  by_cases k6 : s.kind = 6
  · rw [if_pos k6]; exact ⟨hv, he.drop _⟩
  rw [if_neg k6]; exact ⟨hv, he⟩
end Go.Proofs.Ytolkmapdbilolaa

namespace Go.Proofs.Ytolkmapdbilolaa
open Go.RowKit
set_option linter.unusedSimpArgs false
set_option linter.unusedVariables false

theorem GOk.dropNode {ns : List Nv} {es : List Ed} {given : Int} (h : GOk ns es given) (t : Int) : GOk (vDropNode ns es t).2 es given := by
  have hv := h.v.dropNode es t
  unfold vDropNode at *
  by_cases h1 : t ∈ ns.map (·.1)
  · have h1' : ¬ (t ∉ ns.map (·.1)) := fun k => k h1
    rw [if_neg h1'] at *
    by_cases h2 : es.any (meets t) = true
    · rw [if_pos h2]; exact h
    · rw [if_neg h2] at *
      obtain ⟨A, n, B, rfl, hA, rfl⟩ := v_split h.v.up h1
      have e : (A ++ n :: B).eraseIdx (rank ((A ++ n :: B).map (·.1)) n.1) = A ++ B := by rw [← hA]; simp [List.eraseIdx_append]
      rw [e]
      have hv : VOk (A ++ B) := by rw [← e]; exact hv
      refine ⟨hv, h.e, fun m hm => h.nd m (by simp at hm ⊢; rcases hm with hm | hm <;> simp [hm]), fun e he => ?_⟩
      have h3 : meets n.1 e = false := by
        cases hq : meets n.1 e with
        | false => rfl
        | true => exact absurd (List.any_eq_true.2 ⟨e, he, hq⟩) h2
      have h4 : e.src ≠ n.1 ∧ e.dst ≠ n.1 := by simpa [meets] using h3
      obtain ⟨d1, d2, d3⟩ := h.ed e he
      refine ⟨d1, ?_, ?_⟩
      · simp only [List.map_append, List.map_cons, List.mem_append, List.mem_cons] at d2 ⊢
        rcases d2 with d | d | d
        · exact .inl d
        · exact absurd d h4.1
        · exact .inr d
      · simp only [List.map_append, List.map_cons, List.mem_append, List.mem_cons] at d3 ⊢
        rcases d3 with d | d | d
        · exact .inl d
        · exact absurd d h4.2
        · exact .inr d
  · rw [if_pos h1]; exact h
theorem GOk.drop {ns : List Nv} {es : List Ed} {given : Int} (h : GOk ns es given) (t : Int) : GOk ns (vDrop es t).2 given := by
  refine ⟨h.v, h.e.drop t, h.nd, fun e he => h.ed e ?_⟩
  unfold vDrop at he
  split at he
  · exact he
  · exact (List.eraseIdx_sublist _ _).subset he
theorem opG_gok (s : St10) {ns : List Nv} {es : List Ed} {g : Int} (h : GOk ns es g) : GOk (opG s ns es g).1 (opG s ns es g).2.1 (opG s ns es g).2.2 := by
  unfold opG
  by_cases k1 : s.kind = 1
  · rw [if_pos k1]; exact h.addNode _
  rw [if_neg k1]
  by_cases k2 : s.kind = 2
  · rw [if_pos k2]; exact h.dropNode _
  rw [if_neg k2]
  by_cases k3 : s.kind = 3
  · rw [if_pos k3]; exact h.label _ _
  rw [if_neg k3]
  by_cases k4 : s.kind = 4
  · rw [if_pos k4]; exact h.set _ _ _
  rw [if_neg k4]
  by_cases k5 : s.kind = 5
  · rw [if_pos k5]; exact h.add _ _ _
  rw [if_neg k5]
  by_cases k6 : s.kind = 6
  · rw [if_pos k6]; exact h.drop _
  rw [if_neg k6]; exact h
end Go.Proofs.Ytolkmapdbilolaa

