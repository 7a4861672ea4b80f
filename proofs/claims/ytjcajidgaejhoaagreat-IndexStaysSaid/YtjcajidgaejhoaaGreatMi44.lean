/- Sums over labels and nodes: each edge once. -/
import Derived.Test.YtjcajidgaejhoaaGreatMi41
namespace Go.Proofs.YtjcajidgaejhoaaGreat
open Go.RowKit
set_option linter.unusedSimpArgs false
set_option linter.unusedVariables false

theorem sum_parts {α κ : Type} [DecidableEq κ] (f : α → κ) (K : List κ) (hn : K.Nodup) (xs : List α) (hc : ∀ x ∈ xs, f x ∈ K) : (K.map fun k => (xs.filter fun x => decide (f x = k)).length).sum = xs.length := by
  induction xs with
  | nil =>
    have : (K.map fun k => (([] : List α).filter fun x => decide (f x = k)).length) = K.map fun _ => 0 := List.map_congr_left (fun _ _ => rfl)
    rw [this]
    clear this hn hc
    induction K with
    | nil => rfl
    | cons k t ih => simp at ih ⊢; exact ih
  | cons x t ih =>
    have ih2 := ih (fun y hy => hc y (List.mem_cons_of_mem _ hy))
    have hx := hc x (by simp)
    rw [List.length_cons, ← ih2]
    clear ih ih2 hc
    induction K with
    | nil => cases hx
    | cons k s ihk =>
      obtain ⟨h1, h2⟩ := List.nodup_cons.1 hn
      simp only [List.map_cons, List.sum_cons]
      by_cases h : f x = k
      · have hns : ∀ k' ∈ s, f x ≠ k' := fun k' hk' e => h1 (by rw [← h, e]; exact hk')
        have e1 : (s.map fun k' => ((x :: t).filter fun y => decide (f y = k')).length) = s.map fun k' => (t.filter fun y => decide (f y = k')).length :=
          List.map_congr_left (fun k' hk' => by rw [List.filter_cons_of_neg (by simpa using hns k' hk')])
        rw [e1, List.filter_cons_of_pos (by simpa using h), List.length_cons]
        omega
      · have hx' : f x ∈ s := by
          rcases List.mem_cons.1 hx with e | e
          · exact absurd e h
          · exact e
        rw [ihk h2 hx', List.filter_cons_of_neg (by simpa using h)]
        omega
theorem srtS_len (l : List ByteArray) : (srtS l).length ≤ l.length := by
  suffices h : ∀ (l out : List ByteArray), (l.foldl insS out).length ≤ out.length + l.length by
    have := h l []
    simpa [srtS] using this
  intro l
  induction l with
  | nil => simp
  | cons x t ih =>
    intro out
    have h1 := ih (insS out x)
    have h2 := insS_len out x
    rw [List.foldl_cons, List.length_cons]
    omega
theorem sum_take_le (l : List Nat) (k : Nat) : (l.take k).sum ≤ l.sum := by
  conv => rhs; rw [← List.take_append_drop k l, List.sum_append]
  omega
/-- So many edges have one of the first i labels. -/
def Sn (es : List Ed) (i : Nat) : Nat := ((srtS (es.map (·.lab))).take i |>.map fun s => (es.filter (labP s)).length).sum
/-- So many of the edges with a label are at one of the first k nodes. -/
def Tn (ns : List Nv) (es : List Ed) (s : ByteArray) (back : Bool) (k : Nat) : Nat := ((ns.take k).map fun n => (es.filter (outP n.1 s back)).length).sum
theorem Sn_succ {es : List Ed} {i : Nat} {s : ByteArray} (h : (srtS (es.map (·.lab)))[i]? = some s) : Sn es (i + 1) = Sn es i + (es.filter (labP s)).length := by
  unfold Sn
  rw [take_one' h, List.map_append, List.sum_append]
  simp
theorem Tn_succ {ns : List Nv} {es : List Ed} {s : ByteArray} {back : Bool} {k : Nat} {n : Nv} (h : ns[k]? = some n) : Tn ns es s back (k + 1) = Tn ns es s back k + (es.filter (outP n.1 s back)).length := by
  unfold Tn
  rw [take_one' h, List.map_append, List.sum_append]
  simp
theorem Sn_all (es : List Ed) : Sn es (srtS (es.map (·.lab))).length = es.length := by
  unfold Sn
  rw [List.take_length]
  have hn : (srtS (es.map (·.lab))).Nodup := (srtS_up _).imp fun {a b} h e => by subst e; rw [ltS_irrefl] at h; cases h
  exact sum_parts (fun e : Ed => e.lab) _ hn es (fun e he => (srtS_mem _ _).2 (List.mem_map.2 ⟨e, he, rfl⟩))
theorem Sn_le (es : List Ed) (i : Nat) : Sn es i ≤ es.length := by
  have h := Sn_all es
  unfold Sn at *
  rw [List.take_length] at h
  rw [← h]
  rw [List.map_take]
  exact sum_take_le _ _
theorem Tn_all {ns : List Nv} {es : List Ed} {g : Int} (k : GOk ns es g) (s : ByteArray) (back : Bool) : Tn ns es s back ns.length = (es.filter (labP s)).length := by
  unfold Tn
  rw [List.take_length]
  have hn : (ns.map (·.1)).Nodup := k.v.up.imp fun {a b} h e => by omega
  have h := sum_parts (fun e : Ed => if back = true then e.dst else e.src) (ns.map (·.1)) hn (es.filter (labP s)) (fun e he => by
    have := k.ed e (List.mem_filter.1 he).1
    cases back <;> simp only [Bool.false_eq_true, if_false, if_true]
    · exact this.2.1
    · exact this.2.2)
  rw [← h, List.map_map]
  congr 1
  refine List.map_congr_left fun n _ => ?_
  show _ = ((es.filter (labP s)).filter _).length
  rw [List.filter_filter]
  rfl
theorem Tn_le {ns : List Nv} {es : List Ed} {g : Int} (h : GOk ns es g) (s : ByteArray) (back : Bool) (k : Nat) : Tn ns es s back k ≤ (es.filter (labP s)).length := by
  rw [← Tn_all h s back]
  unfold Tn
  rw [List.take_length, List.map_take]
  exact sum_take_le _ _
end Go.Proofs.YtjcajidgaejhoaaGreat

