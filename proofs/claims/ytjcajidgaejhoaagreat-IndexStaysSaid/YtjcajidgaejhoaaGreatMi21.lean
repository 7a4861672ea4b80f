/- circ: made, by Catch. circ: Len, is, Var, Plus, Times, Star. tansyalike.Sum: a sum, held at a limit. tansyalike.Graph: how much a graph that is told bears. -/
import Derived.Test.YtjcajidgaejhoaaGreatMi03
import Derived.Test.YtjcajidgaejhoaaGreatMi04
import Derived.Test.YtjcajidgaejhoaaGreatMi20
namespace Go.Proofs.YtjcajidgaejhoaaGreat
open Go.RowKit
set_option linter.unusedSimpArgs false
set_option linter.unusedVariables false

/-- What made comes to: the gate's number and the error; the gates; what is left. -/
def put (g : Gt) (l : List Gt) (left : Int) : (Int × Int) × List Gt × Int :=
  match find g l 0 with
  | some k => ((k, 0), l, left)
  | none => if 1 ≤ left then ((l.length, 0), l ++ [g], left - 1) else ((0, 10), l, left)

end Go.Proofs.YtjcajidgaejhoaaGreat

namespace Go.Proofs.YtjcajidgaejhoaaGreat
open Go.RowKit
set_option linter.unusedSimpArgs false
set_option linter.unusedVariables false

/-- A store's ops, on the gates and what is left. -/
def mkVar (t : Int) (l : List Gt) (left : Int) : (Int × Int) × List Gt × Int := if t < 1 then ((0, 1), l, left) else put ⟨3, t, 0⟩ l left

/-- Is it no gate's number? -/
def notG (n : Nat) (k : Int) : Bool := decide (k < 0) || decide ((n : Int) ≤ k)

/-- Are all of these gates' numbers? -/
def areG (n : Nat) (xs : List Int) : Bool := !xs.any (notG n)

def mkPlus (a b : Int) (l : List Gt) (left : Int) : (Int × Int) × List Gt × Int :=
  if areG l.length [a, b] = false then ((0, 1), l, left) else if a = 0 then ((b, 0), l, left) else if b = 0 then ((a, 0), l, left) else put ⟨4, min a b, max a b⟩ l left
def mkTimes (a b : Int) (l : List Gt) (left : Int) : (Int × Int) × List Gt × Int :=
  if areG l.length [a, b] = false then ((0, 1), l, left) else if a = 0 then ((0, 0), l, left) else if b = 0 then ((0, 0), l, left) else if a = 1 then ((b, 0), l, left) else if b = 1 then ((a, 0), l, left) else put ⟨5, min a b, max a b⟩ l left
def mkStar (a : Int) (l : List Gt) (left : Int) : (Int × Int) × List Gt × Int :=
  if areG l.length [a] = false then ((0, 1), l, left) else if a = 0 then ((1, 0), l, left) else put ⟨6, a, 0⟩ l left

/-- A new slice of two ints; of one. -/
theorem RdI.two (w : World) (a b : Int) (T : TypeId) : RdI (w.alloc (.cells #[.int .i64 a, .int .i64 b] T)) (some ⟨w.heap.size, 0, none⟩) [a, b] :=
  .inr ⟨w.heap.size, 0, rfl, by simp, fun k hk => by
    have h := Blk.new w T #[.int .i64 a, .int .i64 b]
    match k, hk with
    | 0, _ => exact h.at 0 rfl
    | 1, _ => exact h.at 1 rfl⟩
theorem RdI.one (w : World) (a : Int) (T : TypeId) : RdI (w.alloc (.cells #[.int .i64 a] T)) (some ⟨w.heap.size, 0, none⟩) [a] :=
  .inr ⟨w.heap.size, 0, rfl, by simp, fun k hk => by
    have h := Blk.new w T #[.int .i64 a]
    match k, hk with
    | 0, _ => exact h.at 0 rfl⟩

end Go.Proofs.YtjcajidgaejhoaaGreat

namespace Go.Proofs.YtjcajidgaejhoaaGreat
open Go.RowKit
set_option linter.unusedSimpArgs false
set_option linter.unusedVariables false

/-- A sum of numbers from 0 on, held at 2^40. -/
def satTo : Int → List Int → Int
  | n, [] => n
  | n, x :: xs => if 1099511627776 < n ∨ 1099511627776 - n < x then 1099511627776 else satTo (n + x) xs

set_option maxHeartbeats 400000 in
theorem sat_any (n : Int) (a : Option Addr) (cap : Nat) (xs : List Int) (w : World) (h0 : 0 ≤ n) (h1 : n ≤ 1099511627776) (hx : RdI w a xs) (hl : xs.length ≤ 1073741824) (hp : ∀ x ∈ xs, 0 ≤ x ∧ x ≤ 9223372036854775807) :
    Calls Tryz.prog 29 #[.int .i64 n, .slice a xs.length cap] w fun e w' => e = .returned (.int .i64 (satTo n xs)) ∧ w' = w := by
  have HX := Lib.hid hx
  have HP := Lib.hid hp
  generalize hr : satTo n xs = r
  have HR := Lib.hid hr
  clear hx hp hr
  go_enter Tryz.func29, Tryz.ntmps29
  go_wp2_with fail
  go_loop [0, 5] (fun v i => ∃ (k : Nat) (m : Int), k ≤ xs.length ∧ i = .int .i64 k ∧ v = .int .i64 m ∧ 0 ≤ m ∧ m ≤ 1099511627776 ∧ Hid (satTo m (xs.drop k) = r)) (fun _ i => xs.length - (intOf i).toNat)
  case atStart => exact ⟨0, n, Nat.zero_le _, rfl, rfl, h0, h1, HR.out⟩
  case round =>
    obtain ⟨k, m, hk, rfl, rfl, m0, m1, hq⟩ := hrel
    by_cases hlt : k < xs.length
    · obtain ⟨b, off, rfl, hc⟩ := HX.out.at hlt
      have hm : Hid (satTo m (xs.drop k) = r) := hq.out
      rw [List.drop_eq_getElem_cons hlt, satTo] at hm
      have hb := HP.out xs[k] (List.getElem_mem hlt)
      generalize xs[k] = x at *
      have x0 := hb.1
      have x1 := hb.2
      clear hb
      by_cases hov : 1099511627776 - m < x
      · rw [if_pos (.inr hov)] at hm
        have hm' := hm.out
        subst hm'
        clear hm
        go_wp2_with fail
        go_ret
        exact ⟨rfl, rfl⟩
      · rw [if_neg (by omega)] at hm
        go_wp2_with fail
        go_round
        case rel => exact ⟨k + 1, m + x, by omega, by go_num, rfl, by omega, by omega, hm⟩
        case measure => simp [intOf]; omega
    · have hkn : k = xs.length := by omega
      subst hkn
      have hm := hq.out
      rw [List.drop_length, satTo] at hm
      subst hm
      go_wp2_with fail
      go_ret
      exact ⟨rfl, rfl⟩

theorem sat_two (n x : Int) (h0 : 0 ≤ n) (h1 : n ≤ 1000) (hx : 0 ≤ x) : satTo n [x, 1] = if n + x + 1 ≤ 1099511627776 then n + x + 1 else 1099511627776 := by
  simp only [satTo]
  repeat' split
  all_goals omega

end Go.Proofs.YtjcajidgaejhoaaGreat

namespace Go.Proofs.YtjcajidgaejhoaaGreat
open Go.RowKit
set_option linter.unusedSimpArgs false
set_option linter.unusedVariables false

theorem satTo_le : ∀ (xs : List Int) (n : Int), 0 ≤ n → n ≤ 1099511627776 → (∀ x ∈ xs, 0 ≤ x) → n ≤ satTo n xs ∧ satTo n xs ≤ 1099511627776 ∧ ∀ x ∈ xs, satTo n xs ≤ 2000 → x ≤ 2000 := by
  intro xs
  induction xs with
  | nil => intro n h0 h1 _; exact ⟨by simp [satTo], by simpa [satTo] using h1, by simp⟩
  | cons y t ih =>
    intro n h0 h1 hp
    unfold satTo
    have hy := hp y (by simp)
    split
    · exact ⟨h1, by omega, fun x _ h => by omega⟩
    · obtain ⟨a, b, c⟩ := ih (n + y) (by omega) (by omega) (fun x hx => hp x (by simp [hx]))
      refine ⟨by omega, b, fun x hx h => ?_⟩
      rcases List.mem_cons.1 hx with rfl | hx
      · omega
      · exact c x hx h
theorem rd2 {w : World} {b : Nat} {x y : Int} {T : TypeId} (h : Blk w b T #[.int .i64 x, .int .i64 y]) : RdI w (some ⟨b, 0, none⟩) [x, y] :=
  .inr ⟨b, 0, rfl, h.lt, fun k hk => by
    match k, hk with
    | 0, _ => exact h.at 0 rfl
    | 1, _ => exact h.at 1 rfl⟩
theorem rd1 {w : World} {b : Nat} {x : Int} {T : TypeId} (h : Blk w b T #[.int .i64 x]) : RdI w (some ⟨b, 0, none⟩) [x] :=
  .inr ⟨b, 0, rfl, h.lt, fun k hk => by
    match k, hk with
    | 0, _ => exact h.at 0 rfl⟩
/-- What a sum of two more is. -/
theorem sat2 (m : Int) (a b : Nat) (h0 : 0 ≤ m) (h1 : m ≤ 1099511627776) (ha : a ≤ 9223372036854775807) (hb : b ≤ 9223372036854775807) : ∃ q : Int, m ≤ q ∧ q ≤ 1099511627776 ∧ (q ≤ 2000 → a ≤ 2000 ∧ b ≤ 2000) ∧
    ∀ (w : World) (bk : Nat), Blk w bk 3 #[.int .i64 a, .int .i64 b] → Calls Tryz.prog 29 #[.int .i64 m, .slice (some ⟨bk, 0, none⟩) 2 2] w fun e w' => e = .returned (.int .i64 q) ∧ w' = w := by
  have h := satTo_le [(a : Int), (b : Int)] m h0 h1 (by simp)
  exact ⟨_, h.1, h.2.1, fun hq => ⟨by have := h.2.2 a (by simp) hq; omega, by have := h.2.2 b (by simp) hq; omega⟩, fun w bk hbk => sat_any m (some ⟨bk, 0, none⟩) 2 [(a : Int), (b : Int)] _ h0 h1 (rd2 hbk) (by simp) (by simp; omega)⟩
theorem sat1 (m : Int) (a : Nat) (h0 : 0 ≤ m) (h1 : m ≤ 1099511627776) (ha : a ≤ 9223372036854775807) : ∃ q : Int, m ≤ q ∧ q ≤ 1099511627776 ∧
    ∀ (w : World) (bk : Nat), Blk w bk 3 #[.int .i64 a] → Calls Tryz.prog 29 #[.int .i64 m, .slice (some ⟨bk, 0, none⟩) 1 1] w fun e w' => e = .returned (.int .i64 q) ∧ w' = w := by
  have h := satTo_le [(a : Int)] m h0 h1 (by simp)
  exact ⟨_, h.1, h.2.1, fun w bk hbk => sat_any m (some ⟨bk, 0, none⟩) 1 [(a : Int)] _ h0 h1 (rd1 hbk) (by simp) (by simp; omega)⟩

/-- No list is longer than a machine bears. -/
def LenX (x : Gx) : Prop := x.ns.length ≤ 9223372036854775807 ∧ x.es.length ≤ 9223372036854775807 ∧ ∀ n ∈ x.ns, n.2.1.length ≤ 9223372036854775807 ∧ n.2.2.length ≤ 9223372036854775807
/-- What Graph ends in. -/
def GwEnd (x : Gx) (w : World) (e : Ending) (w' : World) : Prop := ∃ n : Int, e = .returned (.int .i64 n) ∧ (n ≤ 2000 → x.Short) ∧ Frame [] w w'
/-- Behind k nodes. -/
def GwP (x : Gx) (k : Nat) (m : Int) : Prop := m ≤ 2000 → x.ns.length ≤ 2000 ∧ x.es.length ≤ 2000 ∧ ∀ j n, j < k → x.ns[j]? = some n → n.2.1.length ≤ 2000 ∧ n.2.2.length ≤ 2000

set_option maxHeartbeats 16000000 in
set_option maxRecDepth 100000 in
theorem weight_any (U : Nat → Prop) (v : Value) (x : Gx) (w : World) (h : RG U w v x) (hl : LenX x) (hst : StrX x) :
    Calls Tryz.prog 6 #[v] w (GwEnd x w) := by
  obtain ⟨an, nc, ae, ec, rfl, h1, h2⟩ := h
  obtain ⟨l1, l2, l3⟩ := hl
  have H1 := Lib.hid h1
  have H2 := Lib.hid h2
  have HL := Lib.hid l3
  have HST := Lib.hid hst
  clear h1 h2 l3 hst
  obtain ⟨q, q1, q2, q3, q4⟩ := sat2 1 x.ns.length x.es.length (by omega) (by omega) l1 l2
  have P0 : Hid (GwP x 0 q) := by
    show GwP x 0 q
    intro h
    exact ⟨(q3 h).1, (q3 h).2, fun j n hj => by omega⟩
  have HQ := Lib.hid q4
  clear q3 q4
  go_enter Tryz.func6, Tryz.ntmps6
  go_wp2_with fail
  refine (HQ.out _ _ ?_).mono ?_
  focus (first | exact Blk.new _ _ _ | (have := Blk.new (w.alloc (.cells #[.slice an x.ns.length nc, .slice ae x.es.length ec, .int .i64 x.next] 25)) 3 #[.int .i64 x.ns.length, .int .i64 x.es.length]; simpa only [World.size_alloc] using this))
  rintro e w1 ⟨rfl, rfl⟩
  clear HQ
  have fr : Frame [] w ((w.alloc (.cells #[.slice an x.ns.length nc, .slice ae x.es.length ec, .int .i64 x.next] 25)).alloc (.cells #[.int .i64 x.ns.length, .int .i64 x.es.length] 3)) := (Frame.alloc _ _ _).trans1 (Frame.alloc _ _ _)
  have b0 := (Blk.new w 25 #[.slice an x.ns.length nc, .slice ae x.es.length ec, .int .i64 x.next]).alloc (.cells #[.int .i64 x.ns.length, .int .i64 x.es.length] 3)
  generalize (w.alloc (.cells #[.slice an x.ns.length nc, .slice ae x.es.length ec, .int .i64 x.next] 25)).alloc (.cells #[.int .i64 x.ns.length, .int .i64 x.es.length] 3) = wa at *
  have B := Lib.hid b0
  have FR := Lib.hid fr
  clear b0 fr
  go_wp2_with fail
  go_loopw [3, 4] (fun v i wr => ∃ (k : Nat) (m : Int), k ≤ x.ns.length ∧ i = .int .i64 k ∧ v = .int .i64 m ∧ 1 ≤ m ∧ m ≤ 1099511627776 ∧ Hid (Frame [] wa wr ∧ GwP x k m)) (fun _ i _ => x.ns.length - (intOf i).toNat)
  case atStart => exact ⟨0, q, Nat.zero_le _, rfl, rfl, q1, q2, Frame.refl _ _, P0.out⟩
  case round =>
    obtain ⟨k, m, hk, rfl, rfl, m1, m2, hR⟩ := hrel
    clear q1 q2 P0
    have z0 := (B.out.frame hR.out.1 (by simp)).at 0 rfl
    by_cases hgo : k < x.ns.length ∧ m < 10000
    · obtain ⟨hlt, hm⟩ := hgo
      have hmd : decide (m < 10000) = true := by simpa using hm
      have g1 : x.ns[k]? = some x.ns[k] := by simp [hlt]
      have hst := HST.out.1 _ (List.getElem_mem hlt)
      have hln := HL.out _ (List.getElem_mem hlt)
      obtain ⟨p1, o1, la, lc, pa, pc, rfl, -, x0, x1, x2, rl, rp⟩ := H1.out k _ g1
      have fw := FR.out.trans1 hR.out.1
      have x1 := fw.cell x1 (by simp)
      have x2 := fw.cell x2 (by simp)
      generalize x.ns[k] = n at *
      obtain ⟨i, ls, ps⟩ := n
      simp only at x1 x2 rl rp hln
      have G1 := Lib.hid g1
      have RL := Lib.hid rl
      have RP := Lib.hid rp
      have HSN := Lib.hid hst
      have X1 := Lib.hid x1
      have X2 := Lib.hid x2
      obtain ⟨ln1, ln2⟩ := hln
      obtain ⟨q, q1, q2, q3, q4⟩ := sat2 m ls.length ps.length (by omega) m2 ln1 ln2
      have HQ := Lib.hid q4
      have Q3 := Lib.hid q3
      clear g1 rl rp hst x0 q3 q4 fw
      go_wp2_with fail
      go_region_held3 (fun w' => w'.cell? ⟨w.heap.size, 0, none⟩ = some (.slice (some ⟨p1, o1, none⟩) x.ns.length nc) ∧ w'.cell? ⟨p1, o1 + k * 3 + 1, none⟩ = some (.slice la ls.length lc) ∧ w'.cell? ⟨p1, o1 + k * 3 + 2, none⟩ = some (.slice pa ps.length pc)) (go_keep)
        ((go_at_call 29; refine (HQ.out _ _ ?_).mono ?_; (focus (exact (Blk.new _ _ _).drew)); rintro e w5 ⟨rfl, rfl⟩))
      have FA : Hid (Frame [] wr (wr.alloc (.cells #[.int .i64 ls.length, .int .i64 ps.length] 3)).drew) := (Frame.alloc _ _ _).trans1 (Frame.drew _ _)
      generalize (wr.alloc (.cells #[.int .i64 ls.length, .int .i64 ps.length] 3)).drew = wb at *
      clear HQ z0 x1 x2 hmd
      have z0 := (B.out.frame (hR.out.1.trans1 FA.out) (by simp)).at 0 rfl
      go_wp2_with fail
      clear z0
      go_loopw [3, 5] (fun v i wq => ∃ (a : Nat) (m' : Int), a ≤ ls.length ∧ i = .int .i64 a ∧ v = .int .i64 m' ∧ q ≤ m' ∧ m' ≤ 1099511627776 ∧ Hid (Frame [] wr wq)) (fun _ i _ => ls.length - (intOf i).toNat)
      case atStart => exact ⟨0, q, Nat.zero_le _, rfl, rfl, by omega, q2, FA.out⟩
      case round =>
        obtain ⟨a, m', ha, rfl, rfl, r1, r2, hQ⟩ := hrel
        rename World => wq
        have z0 := (B.out.frame (hR.out.1.trans1 hQ.out) (by simp)).at 0 rfl
        have x1 := hQ.out.cell X1.out (by simp)
        by_cases hgo2 : a < ls.length ∧ m' < 10000
        · obtain ⟨hlt2, hm2⟩ := hgo2
          have hmd : decide (m' < 10000) = true := by simpa using hm2
          have g2 : ls[a]? = some ls[a] := by simp [hlt2]
          have hsz := HSN.out.1 _ (List.getElem_mem hlt2)
          obtain ⟨p2, o2, rfl, -, t1⟩ := (RL.out.frame0 (FR.out.trans1 (hR.out.1.trans1 hQ.out))) a _ g2
          have t0 := t1 0 _ rfl
          simp only [Nat.add_zero, Nat.mul_one] at t0
          generalize ls[a] = s at *
          obtain ⟨q', s1, s2, s3⟩ := sat1 m' s.size (by omega) r2 hsz
          have HQ := Lib.hid s3
          clear s3 t1 g2
          go_wp2_with fail
          refine (HQ.out _ _ ?_).mono ?_
          focus (first | exact Blk.new _ _ _ | (have := Blk.new (w.alloc (.cells #[.slice an x.ns.length nc, .slice ae x.es.length ec, .int .i64 x.next] 25)) 3 #[.int .i64 x.ns.length, .int .i64 x.es.length]; simpa only [World.size_alloc] using this))
          rintro e w5 ⟨rfl, rfl⟩
          go_wp2_with fail
          go_roundw
          case rel => exact ⟨a + 1, q', by omega, by first | rfl | go_num, rfl, by omega, s2, Lib.hid (hQ.out.trans1 (by (repeat first | assumption | exact Frame.refl _ _ | refine Frame.trans1 ?_ (Frame.alloc _ _ _) | refine Frame.trans1 ?_ (Frame.drew _ _) | refine Frame.trans1 ?_ (Frame.drewN _ _ _))))⟩
          case measure => first | (simp [intOf]; done) | (simp [intOf]; omega)
        · have hx : ls.length ≤ a ∨ (a < ls.length ∧ 10000 ≤ m') := by omega
          rcases hx with hx | ⟨hx, hy⟩
          · go_wp2_with fail
            have x2 := hQ.out.cell X2.out (by simp)
            clear z0 x1 x2
            go_loopw [3, 6] (fun v i wt => ∃ (c : Nat) (m2 : Int), c ≤ ps.length ∧ i = .int .i64 c ∧ v = .int .i64 m2 ∧ q ≤ m2 ∧ m2 ≤ 1099511627776 ∧ Hid (Frame [] wr wt)) (fun _ i _ => ps.length - (intOf i).toNat)
            case atStart => exact ⟨0, m', Nat.zero_le _, rfl, rfl, r1, r2, hQ.out⟩
            case round =>
              obtain ⟨c, m2', hc, rfl, rfl, u1, u2, hT⟩ := hrel
              rename World => wt
              have z0 := (B.out.frame (hR.out.1.trans1 hT.out) (by simp)).at 0 rfl
              have x2 := hT.out.cell X2.out (by simp)
              by_cases hgo3 : c < ps.length ∧ m2' < 10000
              · obtain ⟨hlt3, hm3⟩ := hgo3
                have hmd : decide (m2' < 10000) = true := by simpa using hm3
                have g3 : ps[c]? = some ps[c] := by simp [hlt3]
                have hsz := HSN.out.2 _ (List.getElem_mem hlt3)
                obtain ⟨p3, o3, rfl, -, t3⟩ := (RP.out.frame0 (FR.out.trans1 (hR.out.1.trans1 hT.out))) c _ g3
                have t0 := t3 0 _ rfl
                have t1 := t3 1 _ rfl
                simp only [Nat.add_zero] at t0
                generalize ps[c] = p at *
                obtain ⟨q', s1, s2, -, s3⟩ := sat2 m2' p.name.size p.val.size (by omega) u2 hsz.1 hsz.2
                have HQ := Lib.hid s3
                clear s3 t3 g3
                go_wp2_with fail
                go_region_held3 (fun w' => w'.cell? ⟨w.heap.size, 0, none⟩ = some (.slice (some ⟨p1, o1, none⟩) x.ns.length nc) ∧ w'.cell? ⟨p1, o1 + k * 3 + 2, none⟩ = some (.slice (some ⟨p3, o3, none⟩) ps.length pc) ∧ w'.cell? ⟨p3, o3 + c * 2, none⟩ = some (.string p.name) ∧ w'.cell? ⟨p3, o3 + c * 2 + 1, none⟩ = some (.string p.val)) (go_keep)
                  ((go_at_call 29; refine (HQ.out _ _ ?_).mono ?_; (focus (exact (Blk.new _ _ _).drew)); rintro e w5 ⟨rfl, rfl⟩))
                go_wp2_with fail
                go_roundw
                case rel => exact ⟨c + 1, q', by omega, by first | rfl | go_num, rfl, by omega, s2, Lib.hid (hT.out.trans1 (by (repeat first | assumption | exact Frame.refl _ _ | refine Frame.trans1 ?_ (Frame.alloc _ _ _) | refine Frame.trans1 ?_ (Frame.drew _ _) | refine Frame.trans1 ?_ (Frame.drewN _ _ _))))⟩
                case measure => first | (simp [intOf]; done) | (simp [intOf]; omega)
              · have HST : Hid (Frame [] wa wt ∧ GwP x (k + 1) m2') := by
                  show _ ∧ _
                  refine ⟨hR.out.1.trans1 hT.out, fun h => ?_⟩
                  obtain ⟨b1, b2, b3⟩ := hR.out.2 (by omega)
                  have hq := Q3.out (by omega)
                  refine ⟨b1, b2, fun j n hj hn => ?_⟩
                  rcases Nat.lt_or_ge j k with h1 | h1
                  · exact b3 j n h1 hn
                  · obtain rfl : j = k := by omega
                    have := G1.out.symm.trans hn
                    simp at this
                    subst this
                    exact hq
                have hx3 : ps.length ≤ c ∨ (c < ps.length ∧ 10000 ≤ m2') := by omega
                rcases hx3 with hx3 | ⟨hx3, hy3⟩
                · go_wp2_with fail
                  go_roundw
                  case rel => exact ⟨k + 1, m2', by omega, by first | rfl | go_num, rfl, by omega, u2, HST⟩
                  case measure => first | (simp [intOf]; done) | (simp [intOf]; omega)
                · have hmd : decide (m2' < 10000) = false := by simpa using hy3
                  go_wp2_with fail
                  go_roundw
                  case rel => exact ⟨k + 1, m2', by omega, by first | rfl | go_num, rfl, by omega, u2, HST⟩
                  case measure => first | (simp [intOf]; done) | (simp [intOf]; omega)
          · have hmd : decide (m' < 10000) = false := by simpa using hy
            go_wp2_with fail
            clear hmd
            have x2 := hQ.out.cell X2.out (by simp)
            clear z0 x1 x2
            go_loopw [3, 6] (fun v i wt => ∃ (c : Nat) (m2 : Int), c ≤ ps.length ∧ i = .int .i64 c ∧ v = .int .i64 m2 ∧ q ≤ m2 ∧ m2 ≤ 1099511627776 ∧ Hid (Frame [] wr wt)) (fun _ i _ => ps.length - (intOf i).toNat)
            case atStart => exact ⟨0, m', Nat.zero_le _, rfl, rfl, r1, r2, hQ.out⟩
            case round =>
              obtain ⟨c, m2', hc, rfl, rfl, u1, u2, hT⟩ := hrel
              rename World => wt
              have z0 := (B.out.frame (hR.out.1.trans1 hT.out) (by simp)).at 0 rfl
              have x2 := hT.out.cell X2.out (by simp)
              by_cases hgo3 : c < ps.length ∧ m2' < 10000
              · obtain ⟨hlt3, hm3⟩ := hgo3
                have hmd : decide (m2' < 10000) = true := by simpa using hm3
                have g3 : ps[c]? = some ps[c] := by simp [hlt3]
                have hsz := HSN.out.2 _ (List.getElem_mem hlt3)
                obtain ⟨p3, o3, rfl, -, t3⟩ := (RP.out.frame0 (FR.out.trans1 (hR.out.1.trans1 hT.out))) c _ g3
                have t0 := t3 0 _ rfl
                have t1 := t3 1 _ rfl
                simp only [Nat.add_zero] at t0
                generalize ps[c] = p at *
                obtain ⟨q', s1, s2, -, s3⟩ := sat2 m2' p.name.size p.val.size (by omega) u2 hsz.1 hsz.2
                have HQ := Lib.hid s3
                clear s3 t3 g3
                go_wp2_with fail
                go_region_held3 (fun w' => w'.cell? ⟨w.heap.size, 0, none⟩ = some (.slice (some ⟨p1, o1, none⟩) x.ns.length nc) ∧ w'.cell? ⟨p1, o1 + k * 3 + 2, none⟩ = some (.slice (some ⟨p3, o3, none⟩) ps.length pc) ∧ w'.cell? ⟨p3, o3 + c * 2, none⟩ = some (.string p.name) ∧ w'.cell? ⟨p3, o3 + c * 2 + 1, none⟩ = some (.string p.val)) (go_keep)
                  ((go_at_call 29; refine (HQ.out _ _ ?_).mono ?_; (focus (exact (Blk.new _ _ _).drew)); rintro e w5 ⟨rfl, rfl⟩))
                go_wp2_with fail
                go_roundw
                case rel => exact ⟨c + 1, q', by omega, by first | rfl | go_num, rfl, by omega, s2, Lib.hid (hT.out.trans1 (by (repeat first | assumption | exact Frame.refl _ _ | refine Frame.trans1 ?_ (Frame.alloc _ _ _) | refine Frame.trans1 ?_ (Frame.drew _ _) | refine Frame.trans1 ?_ (Frame.drewN _ _ _))))⟩
                case measure => first | (simp [intOf]; done) | (simp [intOf]; omega)
              · have HST : Hid (Frame [] wa wt ∧ GwP x (k + 1) m2') := by
                  show _ ∧ _
                  refine ⟨hR.out.1.trans1 hT.out, fun h => ?_⟩
                  obtain ⟨b1, b2, b3⟩ := hR.out.2 (by omega)
                  have hq := Q3.out (by omega)
                  refine ⟨b1, b2, fun j n hj hn => ?_⟩
                  rcases Nat.lt_or_ge j k with h1 | h1
                  · exact b3 j n h1 hn
                  · obtain rfl : j = k := by omega
                    have := G1.out.symm.trans hn
                    simp at this
                    subst this
                    exact hq
                have hx3 : ps.length ≤ c ∨ (c < ps.length ∧ 10000 ≤ m2') := by omega
                rcases hx3 with hx3 | ⟨hx3, hy3⟩
                · go_wp2_with fail
                  go_roundw
                  case rel => exact ⟨k + 1, m2', by omega, by first | rfl | go_num, rfl, by omega, u2, HST⟩
                  case measure => first | (simp [intOf]; done) | (simp [intOf]; omega)
                · have hmd : decide (m2' < 10000) = false := by simpa using hy3
                  go_wp2_with fail
                  go_roundw
                  case rel => exact ⟨k + 1, m2', by omega, by first | rfl | go_num, rfl, by omega, u2, HST⟩
                  case measure => first | (simp [intOf]; done) | (simp [intOf]; omega)
    · have PX : Hid (m ≤ 2000 → x.Short) := by
        show m ≤ 2000 → x.Short
        intro h
        have hkk : k = x.ns.length := by omega
        subst hkk
        obtain ⟨a1, a2, a3⟩ := hR.out.2 h
        refine ⟨by omega, by omega, fun n hn => ?_, fun n hn => ?_⟩
        · obtain ⟨j, hj, rfl⟩ := List.getElem_of_mem hn
          have := (a3 j x.ns[j] hj (by simp)).1; omega
        · obtain ⟨j, hj, rfl⟩ := List.getElem_of_mem hn
          have := (a3 j x.ns[j] hj (by simp)).2; omega
      have hF := Lib.hid hR.out.1
      have hx : x.ns.length ≤ k ∨ (k < x.ns.length ∧ 10000 ≤ m) := by omega
      clear hR
      rename World => wl
      rcases hx with hx | ⟨hx, hy⟩
      · go_wp2_with fail
        clear z0
        go_loopw [3, 7] (fun v i wt => ∃ (c : Nat) (m2 : Int), c ≤ x.es.length ∧ i = .int .i64 c ∧ v = .int .i64 m2 ∧ m ≤ m2 ∧ m2 ≤ 1099511627776 ∧ Hid (Frame [] wa wt)) (fun _ i _ => x.es.length - (intOf i).toNat)
        case atStart => exact ⟨0, m, Nat.zero_le _, rfl, rfl, by omega, m2, hF⟩
        case round =>
          obtain ⟨c, m2', hc, rfl, rfl, u1, u2, hT⟩ := hrel
          rename World => wt
          have z1 := (B.out.frame hT.out (by simp)).at 1 rfl
          by_cases hgo3 : c < x.es.length ∧ m2' < 10000
          · obtain ⟨hlt3, hm3⟩ := hgo3
            have hmd : decide (m2' < 10000) = true := by simpa using hm3
            have g3 : x.es[c]? = some x.es[c] := by simp [hlt3]
            have hsz := HST.out.2 _ (List.getElem_mem hlt3)
            obtain ⟨p3, o3, rfl, -, t3⟩ := (H2.out.frame0 (FR.out.trans1 hT.out)) c _ g3
            have t0 := t3 2 _ rfl
            generalize x.es[c] = e9 at *
            obtain ⟨q', s1, s2, s3⟩ := sat1 m2' e9.lab.size (by omega) u2 hsz
            have HQ := Lib.hid s3
            clear s3 t3 g3
            go_wp2_with fail
            refine (HQ.out _ _ ?_).mono ?_
            focus (first | exact Blk.new _ _ _ | (have := Blk.new (w.alloc (.cells #[.slice an x.ns.length nc, .slice ae x.es.length ec, .int .i64 x.next] 25)) 3 #[.int .i64 x.ns.length, .int .i64 x.es.length]; simpa only [World.size_alloc] using this))
            rintro e w5 ⟨rfl, rfl⟩
            go_wp2_with fail
            go_roundw
            case rel => exact ⟨c + 1, q', by omega, by first | rfl | go_num, rfl, by omega, s2, Lib.hid (hT.out.trans1 (by (repeat first | assumption | exact Frame.refl _ _ | refine Frame.trans1 ?_ (Frame.alloc _ _ _) | refine Frame.trans1 ?_ (Frame.drew _ _) | refine Frame.trans1 ?_ (Frame.drewN _ _ _))))⟩
            case measure => first | (simp [intOf]; done) | (simp [intOf]; omega)
          · have hx3 : x.es.length ≤ c ∨ (c < x.es.length ∧ 10000 ≤ m2') := by omega
            have HEND : Hid (GwEnd x w (.returned (.int .i64 m2')) wt) := ⟨m2', rfl, fun h => PX.out (by omega), FR.out.trans1 hT.out⟩
            rcases hx3 with hx3 | ⟨hx3, hy3⟩
            · go_wp2_with fail
              go_ret
              exact HEND.out
            · have hmd : decide (m2' < 10000) = false := by simpa using hy3
              go_wp2_with fail
              go_ret
              exact HEND.out
      · have hmd : decide (m < 10000) = false := by simpa using hy
        go_wp2_with fail
        clear hmd z0
        go_loopw [3, 7] (fun v i wt => ∃ (c : Nat) (m2 : Int), c ≤ x.es.length ∧ i = .int .i64 c ∧ v = .int .i64 m2 ∧ m ≤ m2 ∧ m2 ≤ 1099511627776 ∧ Hid (Frame [] wa wt)) (fun _ i _ => x.es.length - (intOf i).toNat)
        case atStart => exact ⟨0, m, Nat.zero_le _, rfl, rfl, by omega, m2, hF⟩
        case round =>
          obtain ⟨c, m2', hc, rfl, rfl, u1, u2, hT⟩ := hrel
          rename World => wt
          have z1 := (B.out.frame hT.out (by simp)).at 1 rfl
          by_cases hgo3 : c < x.es.length ∧ m2' < 10000
          · exact absurd hgo3 (by omega)
          · have hx3 : x.es.length ≤ c ∨ (c < x.es.length ∧ 10000 ≤ m2') := by omega
            have HEND : Hid (GwEnd x w (.returned (.int .i64 m2')) wt) := ⟨m2', rfl, fun h => PX.out (by omega), FR.out.trans1 hT.out⟩
            rcases hx3 with hx3 | ⟨hx3, hy3⟩
            · go_wp2_with fail
              go_ret
              exact HEND.out
            · have hmd : decide (m2' < 10000) = false := by simpa using hy3
              go_wp2_with fail
              go_ret
              exact HEND.out
end Go.Proofs.YtjcajidgaejhoaaGreat

