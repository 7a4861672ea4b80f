/- Without weights, in any semiring: eval.At, eval.Without. -/
import Derived.Test.YtbnhhmejlglbcaaMg45
import Derived.Test.YtbnhhmejlglbcaaMg41
import Derived.Test.YtbnhhmejlglbcaaMg23
import Derived.Test.YtbnhhmejlglbcaaMg22
namespace Go.Proofs.Ytbnhhmejlglbcaa
open Go.RowKit
set_option linter.unusedSimpArgs false
set_option linter.unusedVariables false

theorem killed_nil {V : Type} (R : Rg V) (W : Int → V) : (killed R W fun t => decide (t ∈ ([] : List Int))) = W := by
  funext t; unfold killed; rw [if_neg (by simp)]
/-- No weights: 0 for the tokens that are left out, else 1. -/
def onesW {V : Type} (R : Rg V) (ts : List Int) : Int → V := fun t => if decide (¬ t ∈ ts) = true then R.o else R.z
theorem killed_ones {V : Type} (R : Rg V) (ts : List Int) : (killed R (fun _ => R.o) fun t => decide (t ∈ ts)) = onesW R ts := by
  funext t; unfold killed onesW
  by_cases h : t ∈ ts <;> simp [h]
theorem without_ones {V : Type} {n : Int} {R : Rg V} {Is : World → Value → V → Prop} {Pl Tm : V → V → Prop} {Sr : V → Prop} (hS : SemOk n R Is Pl Tm Sr) (dec : Wg → V)
    (pb : Nat) (F : List Nat) (l : List Gt) (left : Int) (hI : Inv l) (root : Nat) (hr : root < l.length) (hlen : l.length ≤ 100000)
    (ta : Option Addr) (tc : Nat) (ts : List Int) (w : World) (h : St w pb F l left) (ht : RdI w ta ts) (htl : ts.length ≤ 1000000)
    (hF : ∀ k, k < l.length → ∀ g, l[k]? = some g → FitG Pl Tm Sr (worth R (onesW R ts) l) g) :
    Calls Try.prog 9 #[.pointer (some ⟨pb, 0, none⟩), .int .i64 root, .int .i64 n, .slice none 0 0, .slice ta ts.length tc] w fun e w' => VEnd Is (worth R (onesW R ts) l root) w e w' := by
  have := evWithout_nil hS dec pb F l left hI root hr hlen 0 ta tc ts w h ht htl (by
    rw [killed_ones]
    exact fun k hk g hg => hF k (List.getElem?_eq_some_iff.mp hg).1 g hg)
  rwa [killed_ones] at this
theorem at_ones {V : Type} {n : Int} {R : Rg V} {Is : World → Value → V → Prop} {Pl Tm : V → V → Prop} {Sr : V → Prop} (hS : SemOk n R Is Pl Tm Sr) (dec : Wg → V)
    (pb : Nat) (F : List Nat) (l : List Gt) (left : Int) (hI : Inv l) (root : Nat) (hr : root < l.length) (hlen : l.length ≤ 100000) (w : World) (h : St w pb F l left)
    (hF : ∀ k, k < l.length → ∀ g, l[k]? = some g → FitG Pl Tm Sr (worth R (onesW R []) l) g) :
    Calls Try.prog 8 #[.pointer (some ⟨pb, 0, none⟩), .int .i64 root, .int .i64 n, .slice none 0 0] w fun e w' => VEnd Is (worth R (onesW R []) l root) w e w' :=
  evAt_nil hS pb root (worth R (onesW R []) l root) none 0 0 w (fun w' f => without_ones hS dec pb F l left hI root hr hlen none 0 [] w' (h.frame0 f) (.inl rfl) (by simp) hF)
/-! ### the sizes fit -/
theorem gval_sum {V : Type} {R : Rg V} {W : Int → V} {l : List Gt} (hI : Inv l) {k : Nat} {g : Gt} (hg : l[k]? = some g) (h4 : g.k = 4) : R.p (worth R W l g.a.toNat) (worth R W l g.b.toNat) = worth R W l k := by
  rw [worth_at hI hg]; unfold gval; rw [if_neg (by omega), if_neg (by omega), if_pos h4]
theorem gval_prod {V : Type} {R : Rg V} {W : Int → V} {l : List Gt} (hI : Inv l) {k : Nat} {g : Gt} (hg : l[k]? = some g) (h5 : g.k = 5) : R.t (worth R W l g.a.toNat) (worth R W l g.b.toNat) = worth R W l k := by
  rw [worth_at hI hg]; unfold gval; rw [if_neg (by omega), if_neg (by omega), if_neg (by omega), if_pos h5]
theorem part_lt {l : List Gt} (hI : Inv l) {k : Nat} {g : Gt} (hk : k < l.length) (hg : l[k]? = some g) (h : g.k = 4 ∨ g.k = 5 ∨ g.k = 6) : g.a.toNat < l.length := by
  obtain ⟨a, ha, ha1, _⟩ := wf_nat hI hg (by omega)
  rw [ha, Int.toNat_natCast]; omega
theorem part_lt2 {l : List Gt} (hI : Inv l) {k : Nat} {g : Gt} (hk : k < l.length) (hg : l[k]? = some g) (h : g.k = 4 ∨ g.k = 5) : g.b.toNat < l.length := by
  obtain ⟨b, hb, hb1, _⟩ := wf_nat2 hI hg h
  rw [hb, Int.toNat_natCast]; omega
theorem fit_C {l : List Gt} (hI : Inv l) {W : Int → Option Nat} (h : ∀ k, k < l.length → Sz (worth rgN1 W l k)) : ∀ k, k < l.length → ∀ g, l[k]? = some g → FitG PlC TmC Sz (worth rgN1 W l) g := fun k hk g hg =>
  ⟨fun h4 => ⟨h _ (part_lt hI hk hg (.inl h4)), h _ (part_lt2 hI hk hg (.inl h4)), by rw [show addO = rgN1.p from rfl, gval_sum hI hg h4]; exact h k hk⟩,
   fun h5 => ⟨h _ (part_lt hI hk hg (.inr (.inl h5))), h _ (part_lt2 hI hk hg (.inr h5)), by rw [show mulO = rgN1.t from rfl, gval_prod hI hg h5]; exact h k hk⟩,
   fun h6 => h _ (part_lt hI hk hg (.inr (.inr h6)))⟩
theorem fit_T {l : List Gt} (hI : Inv l) {W : Int → Option Nat} (h : ∀ k, k < l.length → Sz (worth rgT W l k)) : ∀ k, k < l.length → ∀ g, l[k]? = some g → FitG PlT TmT Sz (worth rgT W l) g := fun k hk g hg =>
  ⟨fun h4 => ⟨h _ (part_lt hI hk hg (.inl h4)), h _ (part_lt2 hI hk hg (.inl h4)), by rw [show minO = rgT.p from rfl, gval_sum hI hg h4]; exact h k hk⟩,
   fun h5 => ⟨h _ (part_lt hI hk hg (.inr (.inl h5))), h _ (part_lt2 hI hk hg (.inr h5)), by rw [show addO = rgT.t from rfl, gval_prod hI hg h5]; exact h k hk⟩,
   fun h6 => h _ (part_lt hI hk hg (.inr (.inr h6)))⟩
theorem fit_any {V : Type} {l : List Gt} (f : Nat → V) : ∀ k, k < l.length → ∀ g : Gt, l[k]? = some g → FitG (fun _ _ => True) (fun _ _ => True) (fun _ => True) f g := fun _ _ _ _ => ⟨fun _ => trivial, fun _ => trivial, fun _ => trivial⟩
theorem sz_C {l : List Gt} (hI : Inv l) (hl : l.length ≤ 100) (hb : bigV l = false) {W : Int → Option Nat} {B : Nat} (hW : ∀ t, Bd B (W t)) (hB : B ≤ 10000000) : ∀ k, k < l.length → Sz (worth rgN1 W l k) := fun k hk => by
  have h := bd_count hI hW k
  have hd := bigV_no hb hk
  refine bd_sz (h.mono (Nat.mul_le_mul (show k + B ≤ 10000100 by omega) (Nat.pow_le_pow_right (by omega) hd))) (by decide)
theorem sz_T {l : List Gt} (hI : Inv l) (hl : l.length ≤ 100) {W : Int → Option Nat} {B : Nat} (hW : ∀ t, Bd B (W t)) (hB : B ≤ 10000000) : ∀ k, k < l.length → Sz (worth rgT W l k) := fun k hk => by
  exact bd_sz (bd_trop hI hW k) (by omega)
theorem bd_onesC (ts : List Int) : ∀ t, Bd 0 (onesW rgN1 ts t) := fun t => by
  unfold onesW; split
  · exact bd_one 0
  · exact bd_zero 0
theorem bd_onesT (ts : List Int) : ∀ t, Bd 0 (onesW rgT ts t) := fun t => by
  unfold onesW; split
  · exact bd_zero 0
  · trivial
/-- Two values alone. -/
theorem ones_two {V : Type} {R : Rg V} (h : TwoV R) {l : List Gt} (hI : Inv l) (ts : List Int) (k : Nat) : worth R (onesW R ts) l k = if worth rgB (fun t => decide (¬ t ∈ ts)) l k = true then R.o else R.z := h.worth hI k
theorem ones_count {l : List Gt} (hI : Inv l) (ts : List Int) (k : Nat) : decide (worth rgN1 (onesW rgN1 ts) l k = some 0) = !worth rgB (fun t => decide (¬ t ∈ ts)) l k := nz_count hI (b := fun t => decide (¬ t ∈ ts)) k
end Go.Proofs.Ytbnhhmejlglbcaa

