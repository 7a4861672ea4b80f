/- Circuits cut, both sides, of whatever number. -/
import Derived.Test.YtbnhhmejlglbcaaGreatMa44
import Derived.Test.YtbnhhmejlglbcaaGreatMa45
namespace Go.Proofs.YtbnhhmejlglbcaaGreat
open Go.RowKit
set_option linter.unusedSimpArgs false
set_option linter.unusedVariables false

/-- What is told: the error, the gates, the number, what is left. -/
def cutO (dead : Int → Bool) (l : List Gt) (root : Int) (budget : Int) : Int × List Gt × Int × Int :=
  if notG l.length root = true then (1, [], 0, 0) else ((cutV dead l (reach l root.toNat) (room budget)).e, (cutV dead l (reach l root.toNat) (room budget)).l, (cutV dead l (reach l root.toNat) (room budget)).bm root.toNat, (cutV dead l (reach l root.toNat) (room budget)).left)
theorem cutO_no {dead : Int → Bool} {l : List Gt} {root budget : Int} (h : notG l.length root = true) : cutO dead l root budget = (1, [], 0, 0) := if_pos h
theorem cutO_yes {dead : Int → Bool} {l : List Gt} {root : Nat} {budget : Int} (h : root < l.length) : cutO dead l root budget = ((cutV dead l (reach l root) (room budget)).e, (cutV dead l (reach l root) (room budget)).l, (cutV dead l (reach l root) (room budget)).bm root, (cutV dead l (reach l root) (room budget)).left) := by
  unfold cutO
  rw [if_neg (by simp [notG]; omega), Int.toNat_natCast]
theorem notG_cases {n : Nat} (root : Int) : notG n root = true ∨ ∃ k : Nat, root = k ∧ k < n := by
  by_cases h : notG n root = true
  · exact .inl h
  · simp [notG] at h
    exact .inr ⟨root.toNat, by omega, by omega⟩
def PEnd (o : Int × List Gt × Int × Int) (w : World) (e : Ending) (w' : World) : Prop :=
  (o.1 = 0 → ∃ qb Q, e = .returned (.tuple #[.pointer (some ⟨qb, 0, none⟩), .int .i64 o.2.2.1, .int .i64 0]) ∧ St w' qb Q o.2.1 o.2.2.2) ∧ (o.1 ≠ 0 → e = .returned (.tuple #[.pointer none, .int .i64 0, .int .i64 o.1])) ∧ Frame [] w w'
def QEnd (bud : Int) (o : Int × List Gt × Int × Int) (w : World) (e : Ending) (w' : World) : Prop :=
  (o.1 = 0 → ∃ qb Q, e = .returned (.tuple #[.pointer (some ⟨qb, 0, none⟩), .int .i64 o.2.2.1, .int .i64 0]) ∧ RSt w' qb Q o.2.1 bud) ∧ (o.1 ≠ 0 → e = .returned (.tuple #[.pointer none, .int .i64 0, .int .i64 o.1])) ∧ Frame [] w w'
theorem pend_of {fin : CutSt} {root : Nat} {w w' : World} {e : Ending} (h : RestrEnd fin root w e w') : PEnd (fin.e, fin.l, fin.bm root, fin.left) w e w' :=
  ⟨fun h0 => let ⟨qb, Q, a, b, _⟩ := h.1 h0; ⟨qb, Q, a, b⟩, h.2.1, h.2.2⟩
theorem qend_of {fin : CutSt} {root : Nat} {bud : Int} {w w' : World} {e : Ending} (h : RRestrEnd bud fin root w e w') : QEnd bud (fin.e, fin.l, fin.bm root, fin.left) w e w' :=
  ⟨fun h0 => let ⟨qb, Q, a, b, _⟩ := h.1 h0; ⟨qb, Q, a, b⟩, h.2.1, h.2.2⟩
theorem restrict_o (pb : Nat) (F : List Nat) (l : List Gt) (left : Int) (hI : Inv l) (root : Int) (hlen : l.length ≤ 100000) (budget : Int)
    (ta : Option Addr) (tc : Nat) (ts : List Int) (htl : ts.length ≤ 1000000) (w : World) (h : St w pb F l left) (ht : RdI w ta ts) (hta : ts ≠ [] → ∀ b off, ta = some ⟨b, off, none⟩ → b < w.heap.size) :
    Calls Tryz.prog 32 #[.pointer (some ⟨pb, 0, none⟩), .int .i64 root, .slice ta ts.length tc, .int .i64 budget] w (PEnd (cutO (fun t => decide (t ∈ ts)) l root budget) w) := by
  rcases notG_cases (n := l.length) root with hn | ⟨k, rfl, hk⟩
  · rw [cutO_no hn]
    exact (restrict_none pb F l left root hn ta ts.length tc budget w h).mono fun e w' ⟨h1, h2⟩ => ⟨fun h0 => absurd h0 (by simp), fun _ => h1, h2⟩
  · rw [cutO_yes hk]
    exact (restrict_any pb F l left hI k hk hlen budget ta tc ts htl w h ht hta).mono fun e w' h => pend_of h
theorem copy_o (pb : Nat) (F : List Nat) (l : List Gt) (left : Int) (hI : Inv l) (root : Int) (hlen : l.length ≤ 100000) (budget : Int) (w : World) (h : St w pb F l left) :
    Calls Tryz.prog 37 #[.pointer (some ⟨pb, 0, none⟩), .int .i64 root, .int .i64 budget] w (PEnd (cutO (fun t => decide (t ∈ ([] : List Int))) l root budget) w) := by
  rcases notG_cases (n := l.length) root with hn | ⟨k, rfl, hk⟩
  · rw [cutO_no hn]
    exact (copy_none pb F l left root hn budget w h).mono fun e w' ⟨h1, h2⟩ => ⟨fun h0 => absurd h0 (by simp), fun _ => h1, h2⟩
  · rw [cutO_yes hk]
    exact (copy_any pb F l left hI k hk hlen budget w h).mono fun e w' h => pend_of h
theorem rrestrict_o (pb : Nat) (F : List Nat) (l : List Gt) (bud0 : Int) (hI : Inv l) (hK : Knd l) (root : Int) (hlen : l.length ≤ 100000) (budget : Int)
    (ta : Option Addr) (tc : Nat) (ts : List Int) (htl : ts.length ≤ 1000000) (w : World) (h : RSt w pb F l bud0) (ht : RdI w ta ts) :
    Calls Tryz.prog 35 #[.pointer (some ⟨pb, 0, none⟩), .int .i64 root, .slice ta ts.length tc, .int .i64 budget] w (QEnd (room budget + 2) (cutO (fun t => decide (t ∈ ts)) l root budget) w) := by
  rcases notG_cases (n := l.length) root with hn | ⟨k, rfl, hk⟩
  · rw [cutO_no hn]
    exact (rrestrict_none pb F l bud0 root hn ta ts.length tc budget w h).mono fun e w' ⟨h1, h2⟩ => ⟨fun h0 => absurd h0 (by simp), fun _ => h1, h2⟩
  · rw [cutO_yes hk]
    exact (rrestrict_any pb F l bud0 k w h hI hK hk hlen ta tc ts ht htl budget).mono fun e w' h => qend_of h
/-- Truth of whatever number. -/
def truthO (l : List Gt) (root : Int) (ts : List Int) : Bool := if notG l.length root = true then false else truth l root.toNat ts
def leastO (l : List Gt) (root : Int) (ts : List Int) : List Int := if notG l.length root = true then [] else leastV l root.toNat ts
theorem truthO_no {l : List Gt} {root : Int} {ts : List Int} (h : notG l.length root = true) : truthO l root ts = false := if_pos h
theorem leastO_no {l : List Gt} {root : Int} {ts : List Int} (h : notG l.length root = true) : leastO l root ts = [] := if_pos h
theorem truthO_yes {l : List Gt} {root : Nat} {ts : List Int} (h : root < l.length) : truthO l root ts = truth l root ts := by
  unfold truthO; rw [if_neg (by simp [notG]; omega), Int.toNat_natCast]
theorem leastO_yes {l : List Gt} {root : Nat} {ts : List Int} (h : root < l.length) : leastO l root ts = leastV l root ts := by
  unfold leastO; rw [if_neg (by simp [notG]; omega), Int.toNat_natCast]
theorem truth_o (pb : Nat) (F : List Nat) (l : List Gt) (left : Int) (hI : Inv l) (root : Int) (hlen : l.length ≤ 100000) (ta : Option Addr) (tc : Nat) (ts : List Int) (w : World) (h : St w pb F l left) (ht : RdI w ta ts) (htl : ts.length ≤ 1000000) :
    Calls Tryz.prog 26 #[.pointer (some ⟨pb, 0, none⟩), .int .i64 root, .slice ta ts.length tc] w fun e w' => e = .returned (.bool (truthO l root ts)) ∧ Frame [] w w' := by
  rcases notG_cases (n := l.length) root with hn | ⟨k, rfl, hk⟩
  · rw [truthO_no hn]; exact truth_none pb F l left root hn ta ts.length tc w h
  · rw [truthO_yes hk]; exact truth_any pb F l left hI k hk hlen ta tc ts w h ht htl
theorem rtruth_o (pb : Nat) (F : List Nat) (l : List Gt) (bud : Int) (hI : Inv l) (hK : Knd l) (root : Int) (hlen : l.length ≤ 100000) (ta : Option Addr) (tc : Nat) (ts : List Int) (w : World) (h : RSt w pb F l bud) (ht : RdI w ta ts) (htl : ts.length ≤ 1000000) :
    Calls Tryz.prog 39 #[.pointer (some ⟨pb, 0, none⟩), .int .i64 root, .slice ta ts.length tc] w fun e w' => e = .returned (.bool (truthO l root ts)) ∧ Frame [] w w' := by
  rcases notG_cases (n := l.length) root with hn | ⟨k, rfl, hk⟩
  · rw [truthO_no hn]; exact rtruth_none pb F l bud root hn ta ts.length tc w h
  · rw [truthO_yes hk]; exact rtruth_any pb F l bud k w h hI hK hk hlen ta tc ts ht htl
theorem empty_o (pb : Nat) (F : List Nat) (l : List Gt) (left : Int) (hI : Inv l) (root : Int) (hlen : l.length ≤ 100000) (w : World) (h : St w pb F l left) :
    Calls Tryz.prog 38 #[.pointer (some ⟨pb, 0, none⟩), .int .i64 root] w fun e w' => e = .returned (.bool (truthO l root [])) ∧ Frame [] w w' :=
  empty_of pb root _ w (truth_o pb F l left hI root hlen none 0 [] w h (.inl rfl) (by simp))
theorem least_o (pb : Nat) (F : List Nat) (l : List Gt) (left : Int) (hI : Inv l) (root : Int) (hlen : l.length ≤ 100000) (ta : Option Addr) (tc : Nat) (ts : List Int) (w : World) (h : St w pb F l left) (ht : RdI w ta ts) (htl : ts.length ≤ 1000) :
    Calls Tryz.prog 41 #[.pointer (some ⟨pb, 0, none⟩), .int .i64 root, .slice ta ts.length tc] w (RowEndI (leastO l root ts) w) := by
  rcases notG_cases (n := l.length) root with hn | ⟨k, rfl, hk⟩
  · rw [leastO_no hn]; exact least_none pb F l left root hn ta tc ts w h ht htl
  · rw [leastO_yes hk]; exact cutLeast_any pb F l left hI k hk hlen ta tc ts w h ht htl
theorem rleast_o (pb : Nat) (F : List Nat) (l : List Gt) (bud : Int) (hI : Inv l) (hK : Knd l) (root : Int) (hlen : l.length ≤ 100000) (ta : Option Addr) (tc : Nat) (ts : List Int) (w : World) (h : RSt w pb F l bud) (ht : RdI w ta ts) (htl : ts.length ≤ 1000) :
    Calls Tryz.prog 42 #[.pointer (some ⟨pb, 0, none⟩), .int .i64 root, .slice ta ts.length tc] w (RowEndI (leastO l root ts) w) := by
  rcases notG_cases (n := l.length) root with hn | ⟨k, rfl, hk⟩
  · rw [leastO_no hn]; exact rleast_none pb F l bud root hn ta tc ts w h ht htl
  · rw [leastO_yes hk]; exact rleastT_any pb F l bud k w h hI hK hk hlen ta tc ts ht htl
/-- How many gates. -/
theorem cutFold_len {dead : Int → Bool} {l : List Gt} : ∀ (ks : List Nat) (s : CutSt), (∃ T, s.left = T - s.l.length) → (∀ k ∈ ks, k < l.length) → (ks.foldl (cutStep dead l) s).l.length ≤ s.l.length + ks.length
  | [], s, _, _ => by simp
  | k :: ks, s, ⟨T, hT⟩, hk => by
    rw [List.foldl_cons]
    by_cases he : s.e = 0
    · have hg : l[k]? = some (l[k]'(hk k (by simp))) := List.getElem?_eq_getElem _
      generalize l[k]'(hk k (by simp)) = g at hg
      have le := againV_left (dead := dead) (bm := s.bm) (g := g) (l := s.l) T
      rw [← hT] at le
      have := cutFold_len (dead := dead) ks (cutStep dead l s k) ⟨T, by rw [cutStep_at he hg]; exact le.1⟩ (fun j hj => hk j (by simp [hj]))
      rw [cutStep_at he hg] at this ⊢
      simp only [List.length_cons] at this ⊢
      have := le.2.2
      omega
    · rw [cutStep_err he]
      have := cutFold_len (dead := dead) ks s ⟨T, hT⟩ (fun j hj => hk j (by simp [hj]))
      simp only [List.length_cons]
      omega
theorem cutO_len {dead : Int → Bool} {l : List Gt} (hI : Inv l) {root budget : Int} : (cutO dead l root budget).2.1.length ≤ l.length + 2 := by
  rcases notG_cases (n := l.length) root with hn | ⟨k, rfl, hk⟩
  · rw [cutO_no hn]; simp
  · rw [cutO_yes hk]
    have hC := reach_closed hI hk
    have h := cutFold_len (dead := dead) (l := l) (reach l k) ⟨fun _ => 0, init, room budget, 0⟩ ⟨room budget + init.length, by simp⟩ hC.lt
    have h2 := reach_len l k
    have e : init.length = 2 := rfl
    simp only [e] at h
    simp only [cutV]
    omega
theorem leastO_len (l : List Gt) (root : Int) (ts : List Int) (h : ts.length ≤ 1000) : (leastO l root ts).length ≤ 1000000 := by
  unfold leastO
  split
  · simp
  · unfold leastV
    split
    · have h1 := foldl_len l root.toNat (srtI ts) (srtI ts)
      have h2 := compact_len5 (ts.mergeSort fun x y => decide (x ≤ y))
      rw [List.length_mergeSort, srtI_compact] at h2
      omega
    · simp
end Go.Proofs.YtbnhhmejlglbcaaGreat

