/- A graph whole: its object, what its nodes hold; by values. -/
import Derived.Test.YtolkmapdbilolaaOwn
import Derived.Test.YtolkmapdbilolaaGops
import Derived.Test.YtolkmapdbilolaaGdropn
import Derived.Test.YtolkmapdbilolaaGadd
import Derived.Test.YtolkmapdbilolaaStr
namespace Go.Proofs.Ytolkmapdbilolaa
open Go.RowKit
set_option linter.unusedSimpArgs false
set_option linter.unusedVariables false

theorem Sl.nodup {α : Type} {w : World} {e sz : Nat} {enc : α → List Value} {v : Value} {xs : List α} {G : List Nat} (h : Sl w e sz enc v xs G) : G.Nodup := by
  rcases h with ⟨_, _, rfl⟩ | ⟨b, _, _, rfl, _⟩ <;> simp
/-- A node with what its slices hold, and their blocks. -/
structure Rn where
  nd : Nd
  ls : List ByteArray
  ps : List Pr
  L : List Nat
  P : List Nat
def Rn.ok (w : World) (r : Rn) : Prop := NdAt w r.nd r.ls r.ps r.L r.P ∧ r.ls.length ≤ 1000000 ∧ r.ps.length ≤ 1000000
def Rn.bl (r : Rn) : List Nat := r.L ++ r.P
/-- A node by its values: number, labels, properties. -/
abbrev Nv := Int × List ByteArray × List Pr
def Rn.tell (r : Rn) : Nv := (r.nd.id, r.ls, r.ps)
theorem Rn.ok_frame {w w' : World} {r : Rn} {S : List Nat} (h : r.ok w) (f : Frame S w w') (hS : ∀ x ∈ r.bl, x ∉ S) : r.ok w' :=
  ⟨h.1.frame f (fun x hx => hS x (by simp [Rn.bl, hx])) (fun x hx => hS x (by simp [Rn.bl, hx])), h.2⟩
theorem Rn.ok_lt {w : World} {r : Rn} (h : r.ok w) : ∀ x ∈ r.bl, x < w.heap.size := fun x hx => h.1.lt x (by simpa [Rn.bl] using hx)
/-- A node without anything. -/
def nd0 (t : Int) : Nd := ⟨t, none, 0, 0, none, 0, 0⟩
def rn0 (t : Int) : Rn := ⟨nd0 t, [], [], [], []⟩
theorem rn0_ok (t : Int) (w : World) : (rn0 t).ok w := ⟨⟨rfl, rfl, Sl.nil _ _ _ _, Sl.nil _ _ _ _, by simp [rn0]⟩, by simp [rn0], by simp [rn0]⟩

theorem GSt.nodup {w : World} {pb : Nat} {F : List Nat} {ns : List Nd} {es : List Ed} {given : Int} (h : GSt w pb F ns es given) : F.Nodup := by
  obtain ⟨an, nc, ae, ec, G, H, hb, sn, se, n1, n2, n3, rfl⟩ := h
  refine List.nodup_cons.2 ⟨by simp [n1, n2], List.nodup_append.2 ⟨sn.nodup, se.nodup, fun x hx y hy e => n3 x hx (e ▸ hy)⟩⟩

/-- A graph: its nodes with what they hold, no block twice. -/
def GG (w : World) (pb : Nat) (F : List Nat) (rs : List Rn) (es : List Ed) (given : Int) : Prop :=
  ∃ FG, GSt w pb FG (rs.map (·.nd)) es given ∧ (∀ r ∈ rs, r.ok w) ∧ (FG ++ rs.flatMap Rn.bl).Nodup ∧ F = FG ++ rs.flatMap Rn.bl
/-- .. by values. -/
def GV (w : World) (pb : Nat) (F : List Nat) (ns : List Nv) (es : List Ed) (given : Int) : Prop := ∃ rs, GG w pb F rs es given ∧ rs.map Rn.tell = ns
/-- Behind a call that may write the graph. -/
def GVEnd (w : World) (pb : Nat) (F : List Nat) (ns : List Nv) (es : List Ed) (given : Int) (w' : World) : Prop :=
  ∃ F', GV w' pb F' ns es given ∧ Frame F w w' ∧ ∀ x ∈ F', x ∈ F ∨ w.heap.size ≤ x
section
variable {w w' : World} {pb : Nat} {F : List Nat} {rs : List Rn} {ns : List Nv} {es : List Ed} {given : Int}
theorem GG.frame {S : List Nat} (h : GG w pb F rs es given) (f : Frame S w w') (hS : ∀ x ∈ F, x ∉ S) : GG w' pb F rs es given := by
  obtain ⟨FG, h1, h2, h3, rfl⟩ := h
  exact ⟨FG, h1.frame f (fun x hx => hS x (by simp [hx])), fun r hr => Rn.ok_frame (h2 r hr) f (fun x hx => hS x (by simp; exact .inr ⟨r, hr, hx⟩)), h3, rfl⟩
theorem GV.frame {S : List Nat} (h : GV w pb F ns es given) (f : Frame S w w') (hS : ∀ x ∈ F, x ∉ S) : GV w' pb F ns es given := by
  obtain ⟨rs, h1, h2⟩ := h
  exact ⟨rs, h1.frame f hS, h2⟩
theorem GV.frame0 (h : GV w pb F ns es given) (f : Frame [] w w') : GV w' pb F ns es given := h.frame f (by simp)
theorem GG.lt (h : GG w pb F rs es given) : ∀ x ∈ F, x < w.heap.size := by
  obtain ⟨FG, h1, h2, h3, rfl⟩ := h
  intro x hx
  rcases List.mem_append.1 hx with hx | hx
  · exact h1.lt x hx
  · obtain ⟨r, hr, hx⟩ := List.mem_flatMap.1 hx
    exact Rn.ok_lt (h2 r hr) x hx
theorem GV.lt (h : GV w pb F ns es given) : ∀ x ∈ F, x < w.heap.size := by
  obtain ⟨rs, h1, _⟩ := h; exact h1.lt
theorem GV.pb_mem (h : GV w pb F ns es given) : pb ∈ F := by
  obtain ⟨rs, ⟨FG, ⟨an, nc, ae, ec, G, H, hb, sn, se, n1, n2, n3, rfl⟩, h2, h3, rfl⟩, _⟩ := h; simp
theorem GVEnd.quiet (h : GV w pb F ns es given) (f : Frame [] w w') : GVEnd w pb F ns es given w' := ⟨F, h.frame0 f, f.mono (by simp), fun x hx => .inl hx⟩
theorem tell_ids (rs : List Rn) : (rs.map Rn.tell).map (·.1) = (rs.map (·.nd)).map (·.id) := by simp [Rn.tell, Function.comp_def]
/-- A call that touches the object and its two rows alone. -/
theorem GG.lift {FG : List Nat} {rs' : List Rn} {es' : List Ed} {given' : Int} (h1 : GSt w pb FG (rs.map (·.nd)) es given) (h2 : ∀ r ∈ rs, r.ok w) (h3 : (FG ++ rs.flatMap Rn.bl).Nodup)
    (e : GEnd w pb FG (rs'.map (·.nd)) es' given' w') (hok : ∀ r ∈ rs', r.ok w) (hsub : (rs'.flatMap Rn.bl).Sublist (rs.flatMap Rn.bl)) :
    ∃ F', GG w' pb F' rs' es' given' ∧ Frame (FG ++ rs.flatMap Rn.bl) w w' ∧ ∀ x ∈ F', x ∈ FG ++ rs.flatMap Rn.bl ∨ w.heap.size ≤ x := by
  obtain ⟨FG', a, b, c⟩ := e
  obtain ⟨n1, n2, n3⟩ := List.nodup_append.1 h3
  have hlt : ∀ x ∈ rs'.flatMap Rn.bl, x < w.heap.size := fun x hx => by
    obtain ⟨r, hr, hx⟩ := List.mem_flatMap.1 hx
    exact Rn.ok_lt (hok r hr) x hx
  refine ⟨FG' ++ rs'.flatMap Rn.bl, ⟨FG', a, fun r hr => Rn.ok_frame (hok r hr) b (fun x hx hm => ?_), List.nodup_append.2 ⟨a.nodup, n2.sublist hsub, fun x hx y hy e => ?_⟩, rfl⟩, b.mono (fun x hx => .inl (by simp [hx])), fun x hx => ?_⟩
  · exact n3 x hm x (hsub.subset (List.mem_flatMap.2 ⟨r, hr, hx⟩)) rfl
  · subst e
    rcases c x hx with h | h
    · exact n3 x h x (hsub.subset hy) rfl
    · have := hlt x hy; omega
  · rcases List.mem_append.1 hx with hx | hx
    · rcases c x hx with h | h
      · exact .inl (by simp [h])
      · exact .inr h
    · exact .inl (List.mem_append.2 (.inr (hsub.subset hx)))
theorem GV.lift {FG : List Nat} {rs' : List Rn} {es' : List Ed} {given' : Int} {ns' : List Nv} (h1 : GSt w pb FG (rs.map (·.nd)) es given) (h2 : ∀ r ∈ rs, r.ok w) (h3 : (FG ++ rs.flatMap Rn.bl).Nodup)
    (e : GEnd w pb FG (rs'.map (·.nd)) es' given' w') (hok : ∀ r ∈ rs', r.ok w) (hsub : (rs'.flatMap Rn.bl).Sublist (rs.flatMap Rn.bl)) (hns : rs'.map Rn.tell = ns') : GVEnd w pb (FG ++ rs.flatMap Rn.bl) ns' es' given' w' := by
  obtain ⟨F', a, b, c⟩ := GG.lift h1 h2 h3 e hok hsub
  exact ⟨F', ⟨rs', a, hns⟩, b, c⟩

/-! ### AddNode -/
def vAddNode (ns : List Nv) (t : Int) : Int × List Nv :=
  if t < 1 ∨ 1000 < t then (1, ns) else if t ∈ ns.map (·.1) then (7, ns) else if 12 ≤ ns.length then (5, ns)
  else (0, ns.take (rank (ns.map (·.1)) t) ++ (t, [], []) :: ns.drop (rank (ns.map (·.1)) t))
theorem gv_addNode (h : GV w pb F ns es given) (hu : Up (ns.map (·.1))) (hn : ns.length ≤ 1000000) (t : Int) :
    Calls Try.prog 28 #[.pointer (some ⟨pb, 0, none⟩), .int .i64 t] w fun e w' => e = .returned (.int .i64 (vAddNode ns t).1) ∧ GVEnd w pb F (vAddNode ns t).2 es given w' := by
  have h0 := h
  obtain ⟨rs, ⟨FG, h1, h2, h3, rfl⟩, rfl⟩ := h
  rw [List.length_map] at hn
  rw [tell_ids] at hu
  have hl : (rs.map (·.nd)).length = rs.length := List.length_map _
  unfold vAddNode
  rw [tell_ids, List.length_map]
  by_cases q1 : t < 1 ∨ 1000 < t
  · rw [if_pos q1]
    exact (addNode_arg h1 hu (by rw [hl]; omega) t q1).mono fun e w' ⟨he, f⟩ => ⟨he, GVEnd.quiet h0 f⟩
  rw [if_neg q1]
  by_cases q2 : t ∈ (rs.map (·.nd)).map (·.id)
  · rw [if_pos q2]
    exact (addNode_dup h1 hu (by rw [hl]; omega) t (by omega) (by omega) q2).mono fun e w' ⟨he, f⟩ => ⟨he, GVEnd.quiet h0 f⟩
  rw [if_neg q2]
  by_cases q3 : 12 ≤ rs.length
  · rw [if_pos q3]
    exact (addNode_full h1 hu (by rw [hl]; omega) (by rw [hl]; omega) t (by omega) (by omega) q2).mono fun e w' ⟨he, f⟩ => ⟨he, GVEnd.quiet h0 f⟩
  rw [if_neg q3]
  refine (addNode_new h1 hu (by rw [hl]; omega) t (by omega) (by omega) q2).mono fun e w' ⟨he, hg⟩ => ⟨he, ?_⟩
  generalize rank ((rs.map (·.nd)).map (·.id)) t = r at *
  have e1 : (rs.map (·.nd)).take r ++ (⟨t, none, 0, 0, none, 0, 0⟩ : Nd) :: (rs.map (·.nd)).drop r = (rs.take r ++ rn0 t :: rs.drop r).map (·.nd) := by simp [rn0, nd0]
  rw [e1] at hg
  refine GV.lift h1 h2 h3 hg (fun x hx => ?_) ?_ (by simp [rn0, nd0, Rn.tell])
  · rcases List.mem_append.1 hx with hx | hx
    · exact h2 x (List.mem_of_mem_take hx)
    · rcases List.mem_cons.1 hx with rfl | hx
      · exact rn0_ok _ _
      · exact h2 x (List.mem_of_mem_drop hx)
  · rw [List.flatMap_append, List.flatMap_cons, show (rn0 t).bl = [] from rfl, List.nil_append, ← List.flatMap_append, List.take_append_drop]
    exact List.Sublist.refl _

/-! ### DropNode -/
def vDropNode (ns : List Nv) (es : List Ed) (t : Int) : Int × List Nv :=
  if t ∉ ns.map (·.1) then (7, ns) else if es.any (meets t) = true then (8, ns) else (0, ns.eraseIdx (rank (ns.map (·.1)) t))
theorem map_eraseIdx {α β : Type} (f : α → β) (l : List α) (i : Nat) : (l.eraseIdx i).map f = (l.map f).eraseIdx i := by
  induction l generalizing i with
  | nil => simp
  | cons x t ih => cases i with
    | zero => simp
    | succ i => simp [ih]
theorem flatMap_sublist {α β : Type} {f : α → List β} {l l' : List α} (h : l.Sublist l') : (l.flatMap f).Sublist (l'.flatMap f) := by
  induction h with
  | slnil => exact List.Sublist.refl _
  | cons a _ ih => rw [List.flatMap_cons]; exact ih.trans (List.sublist_append_right _ _)
  | cons_cons a _ ih => rw [List.flatMap_cons, List.flatMap_cons]; exact (List.Sublist.refl _).append ih
theorem gv_dropNode (h : GV w pb F ns es given) (hu : Up (ns.map (·.1))) (hn : ns.length ≤ 1000000) (he : es.length ≤ 1000000) (t : Int) :
    Calls Try.prog 33 #[.pointer (some ⟨pb, 0, none⟩), .int .i64 t] w fun e w' => e = .returned (.int .i64 (vDropNode ns es t).1) ∧ GVEnd w pb F (vDropNode ns es t).2 es given w' := by
  have h0 := h
  obtain ⟨rs, ⟨FG, h1, h2, h3, rfl⟩, rfl⟩ := h
  rw [List.length_map] at hn
  rw [tell_ids] at hu
  have hl : (rs.map (·.nd)).length = rs.length := List.length_map _
  unfold vDropNode
  rw [tell_ids]
  by_cases q1 : t ∉ (rs.map (·.nd)).map (·.id)
  · rw [if_pos q1]
    exact (dropNode_none h1 hu (by rw [hl]; omega) t q1).mono fun e w' ⟨he, f⟩ => ⟨he, GVEnd.quiet h0 f⟩
  rw [if_neg q1]
  have q1' : t ∈ (rs.map (·.nd)).map (·.id) := Classical.not_not.1 q1
  cases q2 : es.any (meets t) with
  | true =>
    rw [if_pos rfl]
    exact (dropNode_edge h1 hu (by rw [hl]; omega) he t q1' q2).mono fun e w' ⟨he, f⟩ => ⟨he, GVEnd.quiet h0 f⟩
  | false =>
    rw [if_neg (by simp)]
    refine (dropNode_ok h1 hu (by rw [hl]; omega) he t q1' q2).mono fun e w' ⟨he, hg⟩ => ⟨he, ?_⟩
    generalize rank ((rs.map (·.nd)).map (·.id)) t = r at *
    rw [← map_eraseIdx] at hg
    refine GV.lift h1 h2 h3 hg (fun x hx => h2 x (List.mem_of_mem_eraseIdx hx)) (flatMap_sublist (List.eraseIdx_sublist _ _)) (map_eraseIdx _ _ _)
end
end Go.Proofs.Ytolkmapdbilolaa
