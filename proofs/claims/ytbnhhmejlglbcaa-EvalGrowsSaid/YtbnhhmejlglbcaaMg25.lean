/- Circuits that steps make: pure. -/
import Derived.Test.YtbnhhmejlglbcaaMg18
namespace Go.Proofs.Ytbnhhmejlglbcaa
open Go.RowKit
set_option linter.unusedSimpArgs false
set_option linter.unusedVariables false

/-- A step of three numbers. -/
structure St3 where
  kind : Int
  a : Int
  b : Int
def St3.enc (s : St3) : List Value := [.int .i64 s.kind, .int .i64 s.a, .int .i64 s.b]
def St3.ok (w : World) (s : St3) : Prop := okI w s.kind ∧ okI w s.a ∧ okI w s.b
theorem St3.ok_frame {w w' : World} (f : Frame [] w w') (s : St3) (h : s.ok w) : s.ok w' := h
/-- .. as a step whose numbers went round. -/
def St3.stp (s : St3) (n : Nat) : Stp := ⟨if 1 ≤ s.kind ∧ s.kind ≤ 4 then s.kind else 0, if s.kind = 1 then 1 + s.a % 6 else s.a % n, s.b % n, none, 0, []⟩
def stepM (l : List Gt) (s : St3) : List Gt := (opS (s.stp l.length) l (1000 - l.length)).2.1
def gatesM (xs : List St3) : List Gt := xs.foldl stepM init
/-- Its tokens are 1 to 6. -/
def Tk6 (l : List Gt) : Prop := ∀ g ∈ l, g.k = 3 → 1 ≤ g.a ∧ g.a ≤ 6
theorem put_tk6 {g : Gt} {l : List Gt} {left : Int} (h : Tk6 l) (hg : g.k = 3 → 1 ≤ g.a ∧ g.a ≤ 6) : Tk6 (put g l left).2.1 := by
  unfold put
  repeat' split
  · exact h
  · intro x hx
    simp at hx
    rcases hx with hx | rfl
    · exact h x hx
    · exact hg
  · exact h
theorem opS_tk6 {s : Stp} {l : List Gt} {left : Int} (h : Tk6 l) (hs : s.kind = 1 → 1 ≤ s.a ∧ s.a ≤ 6) (h4 : s.kind ≤ 4) : Tk6 (opS s l left).2.1 := by
  unfold opS
  by_cases k1 : s.kind = 1
  · rw [if_pos k1]
    unfold mkVar
    split
    · exact h
    · exact put_tk6 h fun _ => hs k1
  rw [if_neg k1]
  by_cases k2 : s.kind = 2
  · rw [if_pos k2]
    unfold mkPlus
    repeat' split
    all_goals first | exact h | exact put_tk6 h (by simp)
  rw [if_neg k2]
  by_cases k3 : s.kind = 3
  · rw [if_pos k3]
    unfold mkTimes
    repeat' split
    all_goals first | exact h | exact put_tk6 h (by simp)
  rw [if_neg k3]
  by_cases k4 : s.kind = 4
  · rw [if_pos k4]
    unfold mkStar
    repeat' split
    all_goals first | exact h | exact put_tk6 h (by simp)
  rw [if_neg k4, if_neg (by omega)]
  exact h
/-- What is known of made gates. -/
structure MOk (l : List Gt) (n : Nat) : Prop where
  inv : Inv l
  kn : Kn l
  tk : Tk6 l
  len : l.length ≤ 2 + n
  two : 2 ≤ l.length
theorem MOk.init : MOk init 0 := ⟨inv_init, kn_init, by intro g h; simp [Ytbnhhmejlglbcaa.init] at h; rcases h with rfl | rfl <;> simp, by simp [Ytbnhhmejlglbcaa.init], by simp [Ytbnhhmejlglbcaa.init]⟩
theorem MOk.step {l : List Gt} {n : Nat} (h : MOk l n) (s : St3) : MOk (stepM l s) (n + 1) := by
  have k := opS_keep (s.stp l.length) (left := 1000 - l.length) h.inv h.kn
  have le := opS_left (s.stp l.length) l 1000
  have t : Tk6 (stepM l s) := opS_tk6 h.tk (fun e => by
    simp only [St3.stp] at e ⊢
    have : s.kind = 1 := by split at e <;> omega
    rw [if_pos this]; omega) (by simp only [St3.stp]; split <;> omega)
  have hl := h.len
  have h2 := h.two
  simp only [St3.stp, List.length_nil] at le
  unfold stepM at t ⊢
  simp only [St3.stp] at k t ⊢
  exact ⟨k.1, k.2, t, by omega, by omega⟩
theorem stepM_left (l : List Gt) (s : St3) : (opS (s.stp l.length) l (1000 - l.length)).2.2 = 1000 - (stepM l s).length := (opS_left (s.stp l.length) l 1000).1
theorem gatesM_take {xs : List St3} {j : Nat} {s : St3} (h : xs[j]? = some s) : gatesM (xs.take (j + 1)) = stepM (gatesM (xs.take j)) s := by
  unfold gatesM; rw [take_one h, List.foldl_append]; rfl
theorem gatesM_ok : ∀ (xs : List St3) , MOk (gatesM xs) xs.length := by
  have : ∀ (xs : List St3) (l : List Gt) n, MOk l n → MOk (xs.foldl stepM l) (n + xs.length) := by
    intro xs
    induction xs with
    | nil => intro l n h; exact h
    | cons x t ih => intro l n h; have := ih _ _ (h.step x); simp only [List.foldl_cons, List.length_cons]; rw [show n + (t.length + 1) = n + 1 + t.length by omega]; exact this
  intro xs
  have h := this xs init 0 MOk.init
  rw [Nat.zero_add] at h
  exact h
end Go.Proofs.Ytbnhhmejlglbcaa

