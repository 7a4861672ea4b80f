/- Texts in order: cmp over strings; binary search over texts, and over properties by name. A graph whole: its object, what its nodes hold; by values. A graph that is told, as it is read: its slices wherever they lie. -/
import Derived.Test.YtolkmapdbilolaaMg02
import Derived.Test.YtolkmapdbilolaaMg05
import Derived.Test.YtolkmapdbilolaaMg07
namespace Go.Proofs.Ytolkmapdbilolaa
open Go.RowKit
set_option linter.unusedSimpArgs false
set_option linter.unusedVariables false

/-- Is a text ahead of another one? -/
def ltS (a b : ByteArray) : Bool := Op.bytesLess a.toList b.toList
theorem bytesLess_lt : ∀ (x y : List UInt8), Op.bytesLess x y = decide (x < y)
  | [], [] => by simp [Op.bytesLess]
  | _ :: _, [] => by simp [Op.bytesLess]
  | [], _ :: _ => by simp [Op.bytesLess]
  | a :: x, b :: y => by
    rw [Op.bytesLess, bytesLess_lt x y]
    simp only [List.cons_lt_cons_iff]
    by_cases h1 : a < b <;> by_cases h2 : a = b <;> by_cases h3 : x < y <;> simp [h1, h2, h3]
theorem ba_ext {a b : ByteArray} (h : a.toList = b.toList) : a = b := by
  rw [ByteArray.toList_eq, ByteArray.toList_eq] at h
  cases a; cases b; congr 1; exact Array.toList_inj.1 h
theorem ltS_irrefl (a : ByteArray) : ltS a a = false := by
  rw [ltS, bytesLess_lt]; simp
theorem ltS_trans {a b c : ByteArray} (h1 : ltS a b = true) (h2 : ltS b c = true) : ltS a c = true := by
  rw [ltS, bytesLess_lt, decide_eq_true_eq] at *
  exact List.lt_trans h1 h2
theorem ltS_asymm {a b : ByteArray} (h1 : ltS a b = true) : ltS b a = false := by
  cases h : ltS b a with
  | false => rfl
  | true => have := ltS_trans h1 h; rw [ltS_irrefl] at this; cases this
theorem ltS_eq {a b : ByteArray} (h1 : ltS a b = false) (h2 : ltS b a = false) : a = b := by
  rw [ltS, bytesLess_lt, decide_eq_false_iff_not] at *
  exact ba_ext (List.le_antisymm (List.not_lt.1 h2) (List.not_lt.1 h1))
/-- a is not behind b, b is ahead of c. -/
theorem ltS_le_lt {a b c : ByteArray} (h1 : ltS b a = false) (h2 : ltS b c = true) : ltS a c = true := by
  cases h : ltS a b with
  | true => exact ltS_trans h h2
  | false => rw [ltS_eq h h1]; exact h2
theorem ltS_le_ge {a b c : ByteArray} (h1 : ltS b a = false) (h2 : ltS a c = false) : ltS b c = false := by
  cases h : ltS b c with
  | false => rfl
  | true => rw [ltS_le_lt h1 h] at h2; cases h2

/-- How many stand ahead of t. -/
def rankS (ks : List ByteArray) (t : ByteArray) : Nat := ks.countP (fun k => ltS k t)
def UpS (ks : List ByteArray) : Prop := ks.Pairwise (fun a b => ltS a b = true)
theorem rankS_le (ks : List ByteArray) (t : ByteArray) : rankS ks t ≤ ks.length := List.countP_le_length
theorem rankS_of {ks : List ByteArray} {t : ByteArray} : ∀ {r : Nat}, r ≤ ks.length → (∀ i (h : i < ks.length), i < r → ltS ks[i] t = true) → (∀ i (h : i < ks.length), r ≤ i → ltS ks[i] t = false) → rankS ks t = r := by
  unfold rankS
  induction ks with
  | nil => intro r hr _ _; simp at hr; simp [hr]
  | cons a l ih =>
    intro r hr h1 h2
    cases r with
    | zero =>
      rw [List.countP_eq_zero]
      intro x hx
      obtain ⟨i, hi, rfl⟩ := List.getElem_of_mem hx
      have := h2 i hi (Nat.zero_le _)
      simp [this]
    | succ r =>
      have ha : ltS a t = true := h1 0 (by simp) (by omega)
      rw [List.countP_cons_of_pos (by simpa using ha)]
      rw [ih (r := r) (by simpa using hr) (fun i h hi => h1 (i + 1) (by simpa using h) (by omega)) (fun i h hi => h2 (i + 1) (by simpa using h) (by omega))]
/-- Is a text there? -/
def memS (t : ByteArray) (ks : List ByteArray) : Bool := ks.any (fun k => decide (k = t))
theorem memS_iff {t : ByteArray} {ks : List ByteArray} : memS t ks = true ↔ t ∈ ks := by simp [memS]
theorem memS_not {t : ByteArray} {ks : List ByteArray} : memS t ks = false ↔ t ∉ ks := by rw [← memS_iff]; simp
theorem rankS_mem {ks : List ByteArray} {t : ByteArray} {r : Nat} (hr : r ≤ ks.length) (h1 : ∀ i (h : i < ks.length), i < r → ltS ks[i] t = true) (hu : UpS ks) (h2 : ∀ i (h : i < ks.length), r ≤ i → ltS ks[i] t = false) : memS t ks = decide (ks[r]? = some t) := by
  rw [Bool.eq_iff_iff, memS_iff, decide_eq_true_eq]
  constructor
  · intro hm
    obtain ⟨i, hi, he⟩ := List.getElem_of_mem hm
    have hri : r ≤ i := by
      refine Nat.le_of_not_lt fun h => ?_
      have := h1 i hi h; rw [he, ltS_irrefl] at this; cases this
    rcases Nat.lt_or_ge r i with h | h
    · have a1 := (List.pairwise_iff_getElem.1 hu) r i (by omega) hi h
      have a2 := h2 r (by omega) (Nat.le_refl _)
      rw [he, a2] at a1; cases a1
    · obtain rfl : r = i := by omega
      rw [List.getElem?_eq_getElem hi, he]
  · intro h
    exact List.mem_of_getElem? h
/-- What stands ahead of the place is ahead; what stands behind it is not. -/
theorem rankS_lt {ks : List ByteArray} {t : ByteArray} (hu : UpS ks) : (∀ i (h : i < ks.length), i < rankS ks t → ltS ks[i] t = true) ∧ (∀ i (h : i < ks.length), rankS ks t ≤ i → ltS ks[i] t = false) := by
  obtain ⟨r, hr, h1, h2⟩ : ∃ r, r ≤ ks.length ∧ (∀ i (h : i < ks.length), i < r → ltS ks[i] t = true) ∧ (∀ i (h : i < ks.length), r ≤ i → ltS ks[i] t = false) := by
    induction ks with
    | nil => exact ⟨0, by simp, by simp, by simp⟩
    | cons a l ih =>
      obtain ⟨r, hr, h1, h2⟩ := ih (List.pairwise_cons.1 hu).2
      cases ha : ltS a t with
      | true =>
        refine ⟨r + 1, by simp; omega, fun i h hi => ?_, fun i h hi => ?_⟩
        · cases i with
          | zero => exact ha
          | succ i => exact h1 i (by simpa using h) (by omega)
        · cases i with
          | zero => omega
          | succ i => exact h2 i (by simpa using h) (by omega)
      | false =>
        refine ⟨0, by simp, fun i h hi => by omega, fun i h _ => ?_⟩
        cases i with
        | zero => exact ha
        | succ i =>
          have h' : i < l.length := by simpa using h
          have := (List.pairwise_cons.1 hu).1 l[i] (by simp)
          exact ltS_le_ge (a := a) (ltS_asymm this) ha
  rw [rankS_of hr h1 h2]
  exact ⟨h1, h2⟩

/-- cmp.Compare at strings. -/
def cmpS (a b : ByteArray) : Int := if ltS a b = true then -1 else if ltS b a = true then 1 else 0
theorem cmpS_neg (a b : ByteArray) : cmpS a b < 0 ↔ ltS a b = true := by unfold cmpS; split <;> (try split) <;> simp_all
theorem cmpS_zero (a b : ByteArray) : cmpS a b = 0 ↔ a = b := by
  unfold cmpS
  constructor
  · intro h
    split at h
    · omega
    · split at h
      · omega
      · exact ltS_eq (by simpa using ‹¬ ltS a b = true›) (by simpa using ‹¬ ltS b a = true›)
  · rintro rfl; simp [ltS_irrefl]

theorem isNaN_str (a : ByteArray) (w : World) : Calls Try.prog 147 #[.string a] w fun e w' => e = .returned (.bool false) ∧ w' = w := by
  go_enter Try.func147, Try.ntmps147
  go_wp2
  go_ret
  exact ⟨by simp, rfl⟩
theorem sisNaN_str (a : ByteArray) (w : World) : Calls Try.prog 126 #[.string a] w fun e w' => e = .returned (.bool false) ∧ w' = w := by
  go_enter Try.func126, Try.ntmps126
  go_wp2
  go_ret
  exact ⟨by simp, rfl⟩
theorem less_str (a b : ByteArray) (w : World) : Calls Try.prog 125 #[.string a, .string b] w fun e w' => e = .returned (.bool (ltS a b)) ∧ w' = w := by
  go_enter Try.func125, Try.ntmps125
  go_wp2_with (go_at_call 147; refine (isNaN_str _ _).mono ?_; rintro e w' ⟨rfl, rfl⟩)
  go_ret
  exact ⟨rfl, rfl⟩
theorem eqL_false {a b : ByteArray} (h : a ≠ b) : (a.toList == b.toList) = false := by
  rw [beq_eq_false_iff_ne]; exact fun e => h (ba_ext e)
theorem cmp_str (a b : ByteArray) (w : World) : Calls Try.prog 129 #[.string a, .string b] w fun e w' => e = .returned (.int .i64 (cmpS a b)) ∧ w' = w := by
  cases h : ltS a b with
  | true =>
    have e : cmpS a b = -1 := by simp [cmpS, h]
    have h1 : Op.bytesLess a.toList b.toList = true := h
    rw [e]
    clear e h
    go_enter Try.func129, Try.ntmps129
    go_wp2_with (go_at_call 147; refine (isNaN_str _ _).mono ?_; rintro e w' ⟨rfl, rfl⟩)
    go_ret
    exact ⟨rfl, rfl⟩
  | false =>
    cases h2 : ltS b a with
    | true =>
      have e : cmpS a b = 1 := by simp [cmpS, h, h2]
      have hne : a ≠ b := by rintro rfl; rw [ltS_irrefl] at h2; cases h2
      have h1 : Op.bytesLess a.toList b.toList = false := h
      have h3 : (a.toList == b.toList) = false := eqL_false hne
      rw [e]
      clear e h h2 hne
      go_enter Try.func129, Try.ntmps129
      go_wp2_with (go_at_call 147; refine (isNaN_str _ _).mono ?_; rintro e w' ⟨rfl, rfl⟩)
      go_ret
      exact ⟨rfl, rfl⟩
    | false =>
      obtain rfl := ltS_eq h h2
      have e : cmpS a a = 0 := by simp [cmpS, h]
      have h1 : Op.bytesLess a.toList a.toList = false := h
      rw [e]
      clear e h h2
      go_enter Try.func129, Try.ntmps129
      go_wp2_with (go_at_call 147; refine (isNaN_str _ _).mono ?_; rintro e w' ⟨rfl, rfl⟩)
      go_ret
      exact ⟨rfl, rfl⟩
theorem cmp_prop (p : Pr) (t : ByteArray) (w : World) : Calls Try.prog 81 #[.agg #[.string p.name, .string p.val], .string t] w fun x w' => x = .returned (.int .i64 (cmpS p.name t)) ∧ Frame [] w w' := by
  go_enter Try.func81, Try.ntmps81
  go_wp2_with fail
  refine (cmp_str _ _ _).mono ?_
  rintro x w' ⟨rfl, rfl⟩
  go_wp2_with fail
  go_ret
  exact ⟨rfl, Frame.alloc _ _ _⟩
end Go.Proofs.Ytolkmapdbilolaa

namespace Go.Proofs.Ytolkmapdbilolaa
open Go.RowKit
set_option linter.unusedSimpArgs false
set_option linter.unusedVariables false

theorem Sl.nodup {α : Type} {w : World} {e sz : Nat} {enc : α → List Value} {v : Value} {xs : List α} {G : List Nat} (h : Sl w e sz enc v xs G) : G.Nodup := by
  rcases h with ⟨_, _, rfl⟩ | ⟨b, _, _, rfl, _⟩ <;> simp
/-- A node with what its slices hold, and their blocks. -/
structure Rn where
  nd : Nd
  ls : List ByteArray
  ps : List Pr
  L : List Nat
  P : List Nat
def Rn.ok (w : World) (r : Rn) : Prop := NdAt w r.nd r.ls r.ps r.L r.P ∧ r.ls.length ≤ 1000000 ∧ r.ps.length ≤ 1000000
def Rn.bl (r : Rn) : List Nat := r.L ++ r.P
/-- A node by its values: number, labels, properties. -/
abbrev Nv := Int × List ByteArray × List Pr
def Rn.tell (r : Rn) : Nv := (r.nd.id, r.ls, r.ps)
theorem Rn.ok_frame {w w' : World} {r : Rn} {S : List Nat} (h : r.ok w) (f : Frame S w w') (hS : ∀ x ∈ r.bl, x ∉ S) : r.ok w' :=
  ⟨h.1.frame f (fun x hx => hS x (by simp [Rn.bl, hx])) (fun x hx => hS x (by simp [Rn.bl, hx])), h.2⟩
theorem Rn.ok_lt {w : World} {r : Rn} (h : r.ok w) : ∀ x ∈ r.bl, x < w.heap.size := fun x hx => h.1.lt x (by simpa [Rn.bl] using hx)
/-- A node without anything. -/
def nd0 (t : Int) : Nd := ⟨t, none, 0, 0, none, 0, 0⟩
def rn0 (t : Int) : Rn := ⟨nd0 t, [], [], [], []⟩
theorem rn0_ok (t : Int) (w : World) : (rn0 t).ok w := ⟨⟨rfl, rfl, Sl.nil _ _ _ _, Sl.nil _ _ _ _, by simp [rn0]⟩, by simp [rn0], by simp [rn0]⟩

theorem GSt.nodup {w : World} {pb : Nat} {F : List Nat} {ns : List Nd} {es : List Ed} {given : Int} (h : GSt w pb F ns es given) : F.Nodup := by
  obtain ⟨an, nc, ae, ec, G, H, hb, sn, se, n1, n2, n3, rfl⟩ := h
  refine List.nodup_cons.2 ⟨by simp [n1, n2], List.nodup_append.2 ⟨sn.nodup, se.nodup, fun x hx y hy e => n3 x hx (e ▸ hy)⟩⟩

/-- A graph: its nodes with what they hold, no block twice. -/
def GG (w : World) (pb : Nat) (F : List Nat) (rs : List Rn) (es : List Ed) (given : Int) : Prop :=
  ∃ FG, GSt w pb FG (rs.map (·.nd)) es given ∧ (∀ r ∈ rs, r.ok w) ∧ (FG ++ rs.flatMap Rn.bl).Nodup ∧ F = FG ++ rs.flatMap Rn.bl
/-- .. by values. -/
def GV (w : World) (pb : Nat) (F : List Nat) (ns : List Nv) (es : List Ed) (given : Int) : Prop := ∃ rs, GG w pb F rs es given ∧ rs.map Rn.tell = ns
/-- Behind a call that may write the graph. -/
def GVEnd (w : World) (pb : Nat) (F : List Nat) (ns : List Nv) (es : List Ed) (given : Int) (w' : World) : Prop :=
  ∃ F', GV w' pb F' ns es given ∧ Frame F w w' ∧ ∀ x ∈ F', x ∈ F ∨ w.heap.size ≤ x
section
variable {w w' : World} {pb : Nat} {F : List Nat} {rs : List Rn} {ns : List Nv} {es : List Ed} {given : Int}
theorem GG.frame {S : List Nat} (h : GG w pb F rs es given) (f : Frame S w w') (hS : ∀ x ∈ F, x ∉ S) : GG w' pb F rs es given := by
  obtain ⟨FG, h1, h2, h3, rfl⟩ := h
  exact ⟨FG, h1.frame f (fun x hx => hS x (by simp [hx])), fun r hr => Rn.ok_frame (h2 r hr) f (fun x hx => hS x (by simp; exact .inr ⟨r, hr, hx⟩)), h3, rfl⟩
theorem GV.frame {S : List Nat} (h : GV w pb F ns es given) (f : Frame S w w') (hS : ∀ x ∈ F, x ∉ S) : GV w' pb F ns es given := by
  obtain ⟨rs, h1, h2⟩ := h
  exact ⟨rs, h1.frame f hS, h2⟩
theorem GV.frame0 (h : GV w pb F ns es given) (f : Frame [] w w') : GV w' pb F ns es given := h.frame f (by simp)
theorem GG.lt (h : GG w pb F rs es given) : ∀ x ∈ F, x < w.heap.size := by
  obtain ⟨FG, h1, h2, h3, rfl⟩ := h
  intro x hx
  rcases List.mem_append.1 hx with hx | hx
  · exact h1.lt x hx
  · obtain ⟨r, hr, hx⟩ := List.mem_flatMap.1 hx
    exact Rn.ok_lt (h2 r hr) x hx
theorem GV.lt (h : GV w pb F ns es given) : ∀ x ∈ F, x < w.heap.size := by
  obtain ⟨rs, h1, _⟩ := h; exact h1.lt
theorem GV.pb_mem (h : GV w pb F ns es given) : pb ∈ F := by
  obtain ⟨rs, ⟨FG, ⟨an, nc, ae, ec, G, H, hb, sn, se, n1, n2, n3, rfl⟩, h2, h3, rfl⟩, _⟩ := h; simp
theorem GVEnd.quiet (h : GV w pb F ns es given) (f : Frame [] w w') : GVEnd w pb F ns es given w' := ⟨F, h.frame0 f, f.mono (by simp), fun x hx => .inl hx⟩
theorem tell_ids (rs : List Rn) : (rs.map Rn.tell).map (·.1) = (rs.map (·.nd)).map (·.id) := by simp [Rn.tell, Function.comp_def]
/-- A call that touches the object and its two rows alone. -/
theorem GG.lift {FG : List Nat} {rs' : List Rn} {es' : List Ed} {given' : Int} (h1 : GSt w pb FG (rs.map (·.nd)) es given) (h2 : ∀ r ∈ rs, r.ok w) (h3 : (FG ++ rs.flatMap Rn.bl).Nodup)
    (e : GEnd w pb FG (rs'.map (·.nd)) es' given' w') (hok : ∀ r ∈ rs', r.ok w) (hsub : (rs'.flatMap Rn.bl).Sublist (rs.flatMap Rn.bl)) :
    ∃ F', GG w' pb F' rs' es' given' ∧ Frame (FG ++ rs.flatMap Rn.bl) w w' ∧ ∀ x ∈ F', x ∈ FG ++ rs.flatMap Rn.bl ∨ w.heap.size ≤ x := by
  obtain ⟨FG', a, b, c⟩ := e
  obtain ⟨n1, n2, n3⟩ := List.nodup_append.1 h3
  have hlt : ∀ x ∈ rs'.flatMap Rn.bl, x < w.heap.size := fun x hx => by
    obtain ⟨r, hr, hx⟩ := List.mem_flatMap.1 hx
    exact Rn.ok_lt (hok r hr) x hx
  refine ⟨FG' ++ rs'.flatMap Rn.bl, ⟨FG', a, fun r hr => Rn.ok_frame (hok r hr) b (fun x hx hm => ?_), List.nodup_append.2 ⟨a.nodup, n2.sublist hsub, fun x hx y hy e => ?_⟩, rfl⟩, b.mono (fun x hx => .inl (by simp [hx])), fun x hx => ?_⟩
  · exact n3 x hm x (hsub.subset (List.mem_flatMap.2 ⟨r, hr, hx⟩)) rfl
  · subst e
    rcases c x hx with h | h
    · exact n3 x h x (hsub.subset hy) rfl
    · have := hlt x hy; omega
  · rcases List.mem_append.1 hx with hx | hx
    · rcases c x hx with h | h
      · exact .inl (by simp [h])
      · exact .inr h
    · exact .inl (List.mem_append.2 (.inr (hsub.subset hx)))
theorem GV.lift {FG : List Nat} {rs' : List Rn} {es' : List Ed} {given' : Int} {ns' : List Nv} (h1 : GSt w pb FG (rs.map (·.nd)) es given) (h2 : ∀ r ∈ rs, r.ok w) (h3 : (FG ++ rs.flatMap Rn.bl).Nodup)
    (e : GEnd w pb FG (rs'.map (·.nd)) es' given' w') (hok : ∀ r ∈ rs', r.ok w) (hsub : (rs'.flatMap Rn.bl).Sublist (rs.flatMap Rn.bl)) (hns : rs'.map Rn.tell = ns') : GVEnd w pb (FG ++ rs.flatMap Rn.bl) ns' es' given' w' := by
  obtain ⟨F', a, b, c⟩ := GG.lift h1 h2 h3 e hok hsub
  exact ⟨F', ⟨rs', a, hns⟩, b, c⟩

/-! ### AddNode -/
def vAddNode (ns : List Nv) (t : Int) : Int × List Nv :=
  if t < 1 ∨ 1000 < t then (1, ns) else if t ∈ ns.map (·.1) then (7, ns) else if 12 ≤ ns.length then (5, ns)
  else (0, ns.take (rank (ns.map (·.1)) t) ++ (t, [], []) :: ns.drop (rank (ns.map (·.1)) t))
theorem gv_addNode (h : GV w pb F ns es given) (hu : Up (ns.map (·.1))) (hn : ns.length ≤ 1000000) (t : Int) :
    Calls Try.prog 28 #[.pointer (some ⟨pb, 0, none⟩), .int .i64 t] w fun e w' => e = .returned (.int .i64 (vAddNode ns t).1) ∧ GVEnd w pb F (vAddNode ns t).2 es given w' := by
  have h0 := h
  obtain ⟨rs, ⟨FG, h1, h2, h3, rfl⟩, rfl⟩ := h
  rw [List.length_map] at hn
  rw [tell_ids] at hu
  have hl : (rs.map (·.nd)).length = rs.length := List.length_map _
  unfold vAddNode
  rw [tell_ids, List.length_map]
  by_cases q1 : t < 1 ∨ 1000 < t
  · rw [if_pos q1]
    exact (addNode_arg h1 hu (by rw [hl]; omega) t q1).mono fun e w' ⟨he, f⟩ => ⟨he, GVEnd.quiet h0 f⟩
  rw [if_neg q1]
  by_cases q2 : t ∈ (rs.map (·.nd)).map (·.id)
  · rw [if_pos q2]
    exact (addNode_dup h1 hu (by rw [hl]; omega) t (by omega) (by omega) q2).mono fun e w' ⟨he, f⟩ => ⟨he, GVEnd.quiet h0 f⟩
  rw [if_neg q2]
  by_cases q3 : 12 ≤ rs.length
  · rw [if_pos q3]
    exact (addNode_full h1 hu (by rw [hl]; omega) (by rw [hl]; omega) t (by omega) (by omega) q2).mono fun e w' ⟨he, f⟩ => ⟨he, GVEnd.quiet h0 f⟩
  rw [if_neg q3]
  refine (addNode_new h1 hu (by rw [hl]; omega) t (by omega) (by omega) q2).mono fun e w' ⟨he, hg⟩ => ⟨he, ?_⟩
  generalize rank ((rs.map (·.nd)).map (·.id)) t = r at *
  have e1 : (rs.map (·.nd)).take r ++ (⟨t, none, 0, 0, none, 0, 0⟩ : Nd) :: (rs.map (·.nd)).drop r = (rs.take r ++ rn0 t :: rs.drop r).map (·.nd) := by simp [rn0, nd0]
  rw [e1] at hg
  refine GV.lift h1 h2 h3 hg (fun x hx => ?_) ?_ (by simp [rn0, nd0, Rn.tell])
  · rcases List.mem_append.1 hx with hx | hx
    · exact h2 x (List.mem_of_mem_take hx)
    · rcases List.mem_cons.1 hx with rfl | hx
      · exact rn0_ok _ _
      · exact h2 x (List.mem_of_mem_drop hx)
  · rw [List.flatMap_append, List.flatMap_cons, show (rn0 t).bl = [] from rfl, List.nil_append, ← List.flatMap_append, List.take_append_drop]
    exact List.Sublist.refl _

/-! ### DropNode -/
def vDropNode (ns : List Nv) (es : List Ed) (t : Int) : Int × List Nv :=
  if t ∉ ns.map (·.1) then (7, ns) else if es.any (meets t) = true then (8, ns) else (0, ns.eraseIdx (rank (ns.map (·.1)) t))
theorem map_eraseIdx {α β : Type} (f : α → β) (l : List α) (i : Nat) : (l.eraseIdx i).map f = (l.map f).eraseIdx i := by
  induction l generalizing i with
  | nil => simp
  | cons x t ih => cases i with
    | zero => simp
    | succ i => simp [ih]
theorem flatMap_sublist {α β : Type} {f : α → List β} {l l' : List α} (h : l.Sublist l') : (l.flatMap f).Sublist (l'.flatMap f) := by
  induction h with
  | slnil => exact List.Sublist.refl _
  | cons a _ ih => rw [List.flatMap_cons]; exact ih.trans (List.sublist_append_right _ _)
  | cons_cons a _ ih => rw [List.flatMap_cons, List.flatMap_cons]; exact (List.Sublist.refl _).append ih
theorem gv_dropNode (h : GV w pb F ns es given) (hu : Up (ns.map (·.1))) (hn : ns.length ≤ 1000000) (he : es.length ≤ 1000000) (t : Int) :
    Calls Try.prog 33 #[.pointer (some ⟨pb, 0, none⟩), .int .i64 t] w fun e w' => e = .returned (.int .i64 (vDropNode ns es t).1) ∧ GVEnd w pb F (vDropNode ns es t).2 es given w' := by
  have h0 := h
  obtain ⟨rs, ⟨FG, h1, h2, h3, rfl⟩, rfl⟩ := h
  rw [List.length_map] at hn
  rw [tell_ids] at hu
  have hl : (rs.map (·.nd)).length = rs.length := List.length_map _
  unfold vDropNode
  rw [tell_ids]
  by_cases q1 : t ∉ (rs.map (·.nd)).map (·.id)
  · rw [if_pos q1]
    exact (dropNode_none h1 hu (by rw [hl]; omega) t q1).mono fun e w' ⟨he, f⟩ => ⟨he, GVEnd.quiet h0 f⟩
  rw [if_neg q1]
  have q1' : t ∈ (rs.map (·.nd)).map (·.id) := Classical.not_not.1 q1
  cases q2 : es.any (meets t) with
  | true =>
    rw [if_pos rfl]
    exact (dropNode_edge h1 hu (by rw [hl]; omega) he t q1' q2).mono fun e w' ⟨he, f⟩ => ⟨he, GVEnd.quiet h0 f⟩
  | false =>
    rw [if_neg (by simp)]
    refine (dropNode_ok h1 hu (by rw [hl]; omega) he t q1' q2).mono fun e w' ⟨he, hg⟩ => ⟨he, ?_⟩
    generalize rank ((rs.map (·.nd)).map (·.id)) t = r at *
    rw [← map_eraseIdx] at hg
    refine GV.lift h1 h2 h3 hg (fun x hx => h2 x (List.mem_of_mem_eraseIdx hx)) (flatMap_sublist (List.eraseIdx_sublist _ _)) (map_eraseIdx _ _ _)
end
end Go.Proofs.Ytolkmapdbilolaa

namespace Go.Proofs.Ytolkmapdbilolaa
open Go.RowKit
set_option linter.unusedSimpArgs false
set_option linter.unusedVariables false

/-- A slice whose elements are laid out by enc, read in blocks of U. -/
def RF {α : Type} (U : Nat → Prop) (w : World) (sz : Nat) (enc : α → List Value) (a : Option Addr) (xs : List α) : Prop :=
  ∀ k x, xs[k]? = some x → ∃ b off, a = some ⟨b, off, none⟩ ∧ U b ∧ ∀ j u, (enc x)[j]? = some u → w.cell? ⟨b, off + k * sz + j, none⟩ = some u
section
variable {α : Type} {U U' : Nat → Prop} {w w' : World} {sz : Nat} {enc : α → List Value} {a : Option Addr} {xs : List α} {S : List Nat}
theorem RF.frame (h : RF U w sz enc a xs) (f : Frame S w w') (hS : ∀ b, U b → b ∉ S) : RF U w' sz enc a xs := fun k x hx => by
  obtain ⟨b, off, h1, h2, h3⟩ := h k x hx
  exact ⟨b, off, h1, h2, fun j u hu => f.cell (h3 j u hu) (hS b h2)⟩
theorem RF.frame0 (h : RF U w sz enc a xs) (f : Frame [] w w') : RF U w' sz enc a xs := h.frame f (by simp)
theorem RF.mono (h : RF U w sz enc a xs) (hU : ∀ b, U b → U' b) : RF U' w sz enc a xs := fun k x hx => by
  obtain ⟨b, off, h1, h2, h3⟩ := h k x hx
  exact ⟨b, off, h1, hU b h2, h3⟩
theorem RF.nil (U : Nat → Prop) (w : World) (sz : Nat) (enc : α → List Value) (a : Option Addr) : RF U w sz enc a [] := fun k x hx => by simp at hx
/-- All that is read lies in one block. -/
theorem RF.one (h : RF U w sz enc a xs) : xs = [] ∨ ∃ b off, a = some ⟨b, off, none⟩ ∧ U b ∧ ∀ k x, xs[k]? = some x → ∀ j u, (enc x)[j]? = some u → w.cell? ⟨b, off + k * sz + j, none⟩ = some u := by
  cases xs with
  | nil => exact .inl rfl
  | cons y t =>
    right
    obtain ⟨b, off, h1, h2, _⟩ := h 0 y rfl
    refine ⟨b, off, h1, h2, fun k x hx => ?_⟩
    obtain ⟨b', off', h1', _, h3⟩ := h k x hx
    rw [h1] at h1'
    simp at h1'
    obtain ⟨rfl, rfl⟩ := h1'
    exact h3
theorem Sl.rf {e cap n : Nat} {G : List Nat} (h : Sl w e sz enc (.slice a n cap) xs G) (hsz : ∀ x, (enc x).length = sz) (hU : ∀ x ∈ G, U x) : RF U w sz enc a xs := fun k x hx => by
  obtain ⟨b, c, h1, h2, _, h4⟩ := h.cell hsz hx
  injection h1 with h1 _ _
  exact ⟨b, 0, h1, hU b (by simp [h2]), fun j u hu => by rw [Nat.zero_add]; exact h4 j u hu⟩
end

/-- Nodes by their values, as they are read. -/
def RN (U : Nat → Prop) (w : World) (a : Option Addr) (ns : List Nv) : Prop :=
  ∀ k n, ns[k]? = some n → ∃ b off la lc pa pc, a = some ⟨b, off, none⟩ ∧ U b ∧ w.cell? ⟨b, off + k * 3, none⟩ = some (.int .i64 n.1) ∧ w.cell? ⟨b, off + k * 3 + 1, none⟩ = some (.slice la n.2.1.length lc) ∧ w.cell? ⟨b, off + k * 3 + 2, none⟩ = some (.slice pa n.2.2.length pc) ∧
    RF U w 1 encS la n.2.1 ∧ RF U w 2 Pr.cs pa n.2.2
section
variable {U U' : Nat → Prop} {w w' : World} {a : Option Addr} {ns : List Nv} {S : List Nat}
theorem RN.frame (h : RN U w a ns) (f : Frame S w w') (hS : ∀ b, U b → b ∉ S) : RN U w' a ns := fun k n hn => by
  obtain ⟨b, off, la, lc, pa, pc, h1, h2, h3, h4, h5, h6, h7⟩ := h k n hn
  exact ⟨b, off, la, lc, pa, pc, h1, h2, f.cell h3 (hS b h2), f.cell h4 (hS b h2), f.cell h5 (hS b h2), h6.frame f hS, h7.frame f hS⟩
theorem RN.frame0 (h : RN U w a ns) (f : Frame [] w w') : RN U w' a ns := h.frame f (by simp)
theorem RN.mono (h : RN U w a ns) (hU : ∀ b, U b → U' b) : RN U' w a ns := fun k n hn => by
  obtain ⟨b, off, la, lc, pa, pc, h1, h2, h3, h4, h5, h6, h7⟩ := h k n hn
  exact ⟨b, off, la, lc, pa, pc, h1, hU b h2, h3, h4, h5, h6.mono hU, h7.mono hU⟩
theorem RN.nil (U : Nat → Prop) (w : World) (a : Option Addr) : RN U w a [] := fun k x hx => by simp at hx
theorem rn_of_sl {rs : List Rn} {cap n : Nat} {G : List Nat} (h : Sl w 86 3 Nd.cs (.slice a n cap) (rs.map (·.nd)) G) (hr : ∀ r ∈ rs, r.ok w) (hU : ∀ x ∈ G, U x) (hV : ∀ r ∈ rs, ∀ x ∈ r.bl, U x) : RN U w a (rs.map Rn.tell) := fun k n hn => by
  rw [List.getElem?_map] at hn
  obtain ⟨r, hr1, rfl⟩ := Option.map_eq_some_iff.1 hn
  have hm := List.mem_of_getElem? hr1
  have hx : (rs.map (·.nd))[k]? = some r.nd := by rw [List.getElem?_map, hr1]; rfl
  obtain ⟨b, off, h1, h2, h3⟩ := (h.rf nd_len hU) k _ hx
  have c0 := h3 0 _ rfl
  have c1 := h3 1 _ rfl
  have c2 := h3 2 _ rfl
  obtain ⟨⟨e1, e2, s1, s2, _⟩, _, _⟩ := hr r hm
  rw [e1] at c1
  rw [e2] at c2
  exact ⟨b, off, r.nd.la, r.nd.lc, r.nd.pa, r.nd.pc, h1, h2, by simpa [Rn.tell] using c0, c1, c2, s1.rf encS_len (fun x hx => hV r hm x (by simp [Rn.bl, hx])), s2.rf pr_len (fun x hx => hV r hm x (by simp [Rn.bl, hx]))⟩
end

/-- A graph that is told: nodes, edges, the next token. -/
structure Gx where
  ns : List Nv
  es : List Ed
  next : Int
/-- .. as a value that is handed on. -/
def RG (U : Nat → Prop) (w : World) (v : Value) (x : Gx) : Prop :=
  ∃ an nc ae ec, v = .agg #[.slice an x.ns.length nc, .slice ae x.es.length ec, .int .i64 x.next] ∧ RN U w an x.ns ∧ RF U w 4 Ed.cs ae x.es
section
variable {U U' : Nat → Prop} {w w' : World} {v : Value} {x : Gx} {S : List Nat}
theorem RG.frame (h : RG U w v x) (f : Frame S w w') (hS : ∀ b, U b → b ∉ S) : RG U w' v x := by
  obtain ⟨an, nc, ae, ec, h1, h2, h3⟩ := h
  exact ⟨an, nc, ae, ec, h1, h2.frame f hS, h3.frame f hS⟩
theorem RG.frame0 (h : RG U w v x) (f : Frame [] w w') : RG U w' v x := h.frame f (by simp)
theorem RG.mono (h : RG U w v x) (hU : ∀ b, U b → U' b) : RG U' w v x := by
  obtain ⟨an, nc, ae, ec, h1, h2, h3⟩ := h
  exact ⟨an, nc, ae, ec, h1, h2.mono hU, h3.mono hU⟩
end
/-- No list of a graph is long. -/
structure Gx.Short (x : Gx) : Prop where
  ns : x.ns.length ≤ 1000000
  es : x.es.length ≤ 1000000
  ls : ∀ n ∈ x.ns, n.2.1.length ≤ 1000000
  ps : ∀ n ∈ x.ns, n.2.2.length ≤ 1000000

/-- A call that answers whether P holds, and writes nothing that was there. -/
def Ans (P : Prop) (w : World) (e : Ending) (w' : World) : Prop := ∃ b, e = .returned (.bool b) ∧ (b = true ↔ P) ∧ Frame [] w w'
theorem Ans.yes {P : Prop} {w : World} {f : Nat} {args : Array Value} (h : Calls Try.prog f args w (Ans P w)) (hp : P) : Calls Try.prog f args w fun e w' => e = .returned (.bool true) ∧ Frame [] w w' :=
  h.mono fun e w' ⟨b, he, hb, f⟩ => ⟨by rw [he, hb.2 hp], f⟩
theorem Ans.no {P : Prop} {w : World} {f : Nat} {args : Array Value} (h : Calls Try.prog f args w (Ans P w)) (hp : ¬ P) : Calls Try.prog f args w fun e w' => e = .returned (.bool false) ∧ Frame [] w w' :=
  h.mono fun e w' ⟨b, he, hb, f⟩ => ⟨by
    cases b with
    | true => exact absurd (hb.1 rfl) hp
    | false => exact he, f⟩
theorem Ans.mkT {P : Prop} {w w' : World} (h : P) (f : Frame [] w w') : Ans P w (.returned (.bool true)) w' := ⟨true, rfl, by simp [h], f⟩
theorem Ans.mkF {P : Prop} {w w' : World} (h : ¬ P) (f : Frame [] w w') : Ans P w (.returned (.bool false)) w' := ⟨false, rfl, by simp [h], f⟩
end Go.Proofs.Ytolkmapdbilolaa

