/- Rows of sets; slices.SortFunc by anti.order on one's own row. -/
import Derived.Test.YtojfemaamhampaaSub5
namespace Go.Proofs.Ytojfemaamhampaa
open Go.RowKit Go.Sort
set_option linter.unusedSimpArgs false
set_option linter.unusedVariables false

/-- A set as a cell holds it. -/
structure SV where
  a : Option Addr
  c : Nat
  l : List Int
  deriving Inhabited
def SV.v (s : SV) : Value := .slice s.a s.l.length s.c
def encV (s : SV) : List Value := [s.v]
theorem encV_len (s : SV) : (encV s).length = 1 := rfl
theorem encV_one (s : SV) : ∀ u ∈ encV s, u.oneCell' = true := by simp [encV, SV.v, Value.oneCell']
theorem encV_map (xs : List SV) : xs.flatMap encV = xs.map SV.v := by
  induction xs with
  | nil => rfl
  | cons a t ih => rw [List.flatMap_cons, ih]; rfl
/-- It is read, in blocks of U. -/
structure SV.ok (U : Nat → Prop) (w : World) (s : SV) : Prop where
  rd : RdI w s.a s.l
  len : s.l.length ≤ 1000000
  at_ : s.l ≠ [] → ∀ b off, s.a = some ⟨b, off, none⟩ → U b
theorem SV.ok.frame {U : Nat → Prop} {w w' : World} {s : SV} {S : List Nat} (h : s.ok U w) (f : Frame S w w') (hS : ∀ b, U b → b ∉ S) : s.ok U w' := by
  refine ⟨?_, h.len, h.at_⟩
  rcases h.rd with e | ⟨b, off, h1, h2, h3⟩
  · exact .inl e
  · by_cases hn : s.l = []
    · exact .inl hn
    · exact .inr ⟨b, off, h1, Nat.lt_of_lt_of_le h2 f.size, fun k h4 => f.cell (h3 k h4) (hS b (h.at_ hn b off h1))⟩
theorem SV.ok.mono {U V : Nat → Prop} {w : World} {s : SV} (h : s.ok U w) (hU : ∀ b, U b → V b) : s.ok V w := ⟨h.rd, h.len, fun hn b off e => hU b (h.at_ hn b off e)⟩

/-! ### one cell each, put anew -/
section
variable {α : Type} {e1 : α → Value}
theorem flatG (xs : List α) : (xs.flatMap fun x => [e1 x]) = xs.map e1 := by
  induction xs with
  | nil => rfl
  | cons a t ih => rw [List.flatMap_cons, ih]; rfl
theorem putG_take (d : Array α) (cs : Array Value) (h : d.size ≤ cs.size) [Inhabited α] : (putCells e1 0 d cs).toList.take d.size = d.toList.map e1 := by
  apply List.ext_getElem
  · simp [putCells]; omega
  · intro i h1 h2
    have hi : i < d.size := by simpa using h2
    simp [putCells, hi]
theorem putG_blk [Inhabited α] {w : World} {b T n : Nat} {cs : Array Value} {d : Array α} {os : Array Obj} (h : Blk w b T cs) : Blk (grow (putRow e1 (Sort.ahead w n) b 0 d) os) b T (putCells e1 0 d cs) := by
  have hlt := h.lt
  unfold Blk at *
  show ((putRow e1 (Sort.ahead w n) b 0 d).heap ++ os)[b]? = _
  rw [Array.getElem?_append_left (by simpa [Sort.ahead] using hlt)]
  simp [putRow, mapBlock, Sort.ahead, h, Array.getElem?_modify, onCells]
theorem putG_frame [Inhabited α] {w : World} {b n : Nat} {d : Array α} {os : Array Obj} : Frame [b] w (grow (putRow e1 (Sort.ahead w n) b 0 d) os) := by
  refine ⟨rfl, rfl, rfl, ?_, fun k hk hS => ?_⟩
  · show w.heap.size ≤ ((putRow e1 (Sort.ahead w n) b 0 d).heap ++ os).size
    rw [Array.size_append, size_putRow]
    exact Nat.le_add_right _ _
  · have hb : ¬ b = k := fun e => hS (by simp [e])
    show ((putRow e1 (Sort.ahead w n) b 0 d).heap ++ os)[k]? = _
    rw [Array.getElem?_append_left (by simpa [Sort.ahead] using hk)]
    simp [putRow, mapBlock, Sort.ahead, Array.getElem?_modify, hb]
end
theorem entered_order : Entered 55 := by intro args w; simp [go_sem]
theorem alloc_grow (w : World) (o : Obj) : w.alloc o = grow (w.drewN 0) #[o] := by
  unfold World.alloc grow World.drewN
  simp
theorem cfO_swo {α : Type} (f : α → List Int) : SWO (ltOf fun x y => cfO (f x) (f y)) where
  irrefl x := decide_eq_false (LtO.irrefl (f x))
  trans x y z h1 h2 := decide_eq_true (LtO.trans (of_decide_eq_true h1) (of_decide_eq_true h2))
  ntrans x y z h1 h2 := by
    have a : ¬ LtO (f x) (f y) := of_decide_eq_false h1
    have b : ¬ LtO (f y) (f z) := of_decide_eq_false h2
    refine decide_eq_false fun h => ?_
    have h : LtO (f x) (f z) := h
    rcases LtO.total (f x) (f y) with h3 | h3 | h3
    · exact a h3
    · rw [h3] at h; exact b h
    · exact b (h3.trans h)
theorem sortF_sl (v : Value) (vs : List SV) (G : List Nat) (w : World) (h : Sl w 22 1 encV v vs G) (hok : ∀ s ∈ vs, s.ok (· ∉ G) w) (hl : vs.length ≤ 1000000) :
    Calls Try.prog 54 #[v, .func (.func 55) #[] #[]] w fun e w' => e = .returned (.tuple #[]) ∧ ∃ vs' : List SV, vs'.Perm vs ∧ (vs'.map (·.l)).Pairwise (fun x y => ¬ LtO y x) ∧ Sl w' 22 1 encV v vs' G ∧ Frame G w w' := by
  rcases id h with ⟨rfl, rfl, rfl⟩ | ⟨b, cap, rfl, rfl, hr⟩
  · refine (Try.slices_SortFunc_none (α := Int) none 0 _ w).mono ?_
    rintro e w' ⟨he, rfl⟩
    exact ⟨he, [], List.Perm.refl _, by simp, Sl.nil _ _ _ _, Frame.refl _ _⟩
  · by_cases hne : vs = []
    · subst hne
      refine (Try.slices_SortFunc_none (α := Int) _ _ _ w).mono ?_
      rintro e w' ⟨he, rfl⟩
      exact ⟨he, [], List.Perm.refl _, by simp, h, Frame.refl _ _⟩
    · let α := {s : SV // s.ok (· ∉ [b]) w}
      obtain ⟨s0, hs0⟩ := List.exists_mem_of_ne_nil vs hne
      haveI : Inhabited α := ⟨⟨s0, hok s0 hs0⟩⟩
      let e1 : α → Value := fun x => x.1.v
      obtain ⟨dl, hdl⟩ : ∃ dl : List α, dl.map (·.1) = vs := ⟨vs.pmap (fun s h => ⟨s, h⟩) hok, by simp [List.map_pmap]⟩
      have hlen : dl.length = vs.length := by rw [← hdl]; simp
      have hv : vs.flatMap encV = dl.map e1 := by rw [encV_map, ← hdl, List.map_map]; rfl
      have hH : Holds e1 w b 0 dl.toArray := by
        intro j hj
        have hj' : j < dl.length := by simpa using hj
        refine ⟨?_, hr.frozen _⟩
        rw [Nat.zero_add]
        refine hr.cell ?_
        rw [hv]
        simp [hj']
      have hcmp : CmpLays1 Try.prog 55 #[] e1 (fun x y => cfO x.1.l y.1.l) b 0 dl.toArray.size w := by
        intro m os dk _ x y
        have f : Frame [b] w (sortWorld e1 w b 0 m dk os) := putG_frame
        have kx := x.2.frame f (fun c hc => hc)
        have ky := y.2.frame f (fun c hc => hc)
        have := order_any x.1.a y.1.a x.1.c y.1.c x.1.l y.1.l (sortWorld e1 w b 0 m dk os) kx.rd ky.rd kx.len ky.len
        refine this.mono ?_
        rintro e w' ⟨rfl, o, rfl⟩
        exact ⟨rfl, 0, #[o], alloc_grow _ o⟩
      have hc := Try.slices_SortFunc e1 (fun x => rfl) (fun x y => cfO x.1.l y.1.l) (cfO_swo fun x : α => x.1.l) 55 #[] b 0 cap dl.toArray w entered_order hcmp hH hr.lt (by simp; omega)
      have hsz : dl.toArray.size = vs.length := by simp [hlen]
      rw [hsz] at hc
      refine hc.mono ?_
      rintro e w' ⟨he, d', n, os, hp, hs, rfl⟩
      have hd : d'.size = vs.length := hp.1.trans hsz
      have hperm : d'.toList.Perm dl := by
        have := hp.2.2
        have e1 : d'.extract 0 vs.length = d' := by rw [← hd]; simp
        have e2 : dl.toArray.extract 0 vs.length = dl.toArray := by rw [← hsz]; simp
        rw [e1, e2] at this
        simpa using this
      refine ⟨he, d'.toList.map (·.1), by rw [← hdl]; exact hperm.map _, ?_, ?_, putG_frame⟩
      · rw [List.map_map, List.pairwise_map, List.pairwise_iff_getElem]
        intro i j hi hj hij
        have hi' : i < d'.size := by simpa using hi
        have hj' : j < d'.size := by simpa using hj
        have := of_decide_eq_false (hs i j (Nat.zero_le _) hij (by omega))
        rw [getElem!_pos d' i hi', getElem!_pos d' j hj'] at this
        simpa [LtO] using this
      · obtain ⟨cs, h1, h2, h3, h4, h5⟩ := hr.blk
        have hm : (d'.toList.map (·.1)).length = vs.length := by simp [hd]
        refine .inr ⟨b, cap, by rw [hm], rfl, RowAt.of_blk (putG_blk h1) (by omega) h3 (by simpa [putCells] using h4) ?_⟩
        have := putG_take (e1 := e1) d' cs (by omega)
        rw [hm, Nat.mul_one, ← hd, this, encV_map, List.map_map]
        rfl
end Go.Proofs.Ytojfemaamhampaa
