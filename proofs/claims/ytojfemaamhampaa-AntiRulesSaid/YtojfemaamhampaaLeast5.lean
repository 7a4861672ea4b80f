/- anti.least. -/
import Derived.Test.YtojfemaamhampaaCon5
import Derived.Test.YtojfemaamhampaaApp
namespace Go.Proofs.Ytojfemaamhampaa
open Go.RowKit
set_option linter.unusedSimpArgs false
set_option linter.unusedVariables false

theorem infoInts : (Try.prog.info? 22).map (fun i => (i.zero, i.size, i.bytes)) = some (some (.slice none 0 0), 1, 24) := by kernel_rfl
theorem entered_leastFn : Entered 58 := by intro args w; simp [go_sem]
theorem leastFn_any (t s : SV) (box : Nat) (w : World) (hc : w.cell? ⟨box, 0, none⟩ = some (.slice s.a s.l.length s.c)) (ht : t.ok (fun _ => True) w) (hs : s.ok (fun _ => True) w) (ut : Up t.l) (us : Up s.l) :
    Calls Try.prog 58 #[.slice t.a t.l.length t.c, .pointer (some ⟨box, 0, none⟩)] w fun e w' => e = .returned (.bool (subB t.l s.l)) ∧ w' = w := by
  have A := Lib.hid (part_any t.a s.a t.c s.c t.l s.l w ht.rd hs.rd ht.len hs.len ut us)
  clear ht hs ut us
  generalize subB t.l s.l = r at *
  go_enter Try.func58, Try.ntmps58
  go_wp2_with fail
  refine A.out.mono ?_
  rintro e w' ⟨rfl, rfl⟩
  go_wp2_with fail
  go_ret
  exact ⟨rfl, rfl⟩

/-- One step of what least makes. -/
def insV (out : List SV) (s : SV) : List SV := if out.any (fun t => subB t.l s.l) = true then out else out ++ [s]
def outV (ds : List SV) : List SV := ds.foldl insV []
theorem outV_next {ds : List SV} {k : Nat} {s : SV} (h : ds[k]? = some s) : outV (ds.take (k + 1)) = insV (outV (ds.take k)) s := by
  rw [take_one' h]; simp [outV]
theorem insV_map (out : List SV) (s : SV) : (insV out s).map (·.l) = insL (out.map (·.l)) s.l := by
  unfold insV insL
  rw [List.any_map]
  show (if out.any (fun t => subB t.l s.l) = true then out else out ++ [s]).map (·.l) = if out.any (fun t => subB t.l s.l) = true then _ else _
  split <;> simp
theorem outV_map (ds : List SV) : (outV ds).map (·.l) = (ds.map (·.l)).foldl insL [] := by
  suffices h : ∀ (ds out : List SV), (ds.foldl insV out).map (·.l) = (ds.map (·.l)).foldl insL (out.map (·.l)) from h ds []
  intro ds
  induction ds with
  | nil => intro out; rfl
  | cons s t ih => intro out; rw [List.foldl_cons, ih, insV_map]; rfl
theorem outV_mem (ds : List SV) (s : SV) : s ∈ outV ds → s ∈ ds := by
  suffices h : ∀ (ds out : List SV), s ∈ ds.foldl insV out → s ∈ out ∨ s ∈ ds from fun hs => (h ds [] hs).elim (fun h => by simp at h) id
  intro ds
  induction ds with
  | nil => exact fun out h => .inl h
  | cons x t ih =>
    intro out h
    rcases ih _ h with h | h
    · unfold insV at h
      split at h
      · exact .inl h
      · rcases List.mem_append.1 h with h | h
        · exact .inl h
        · right; obtain rfl : s = x := by simpa using h
          simp
    · right; simp [h]
theorem outV_len_take (ds : List SV) : ∀ k, (outV (ds.take k)).length ≤ k
  | 0 => by simp [outV]
  | k + 1 => by
    have ih := outV_len_take ds k
    by_cases hk : k < ds.length
    · rw [outV_next (s := ds[k]) (by simp [hk])]
      unfold insV
      split
      · omega
      · simp; omega
    · rw [List.take_of_length_le (by omega)]
      rw [List.take_of_length_le (by omega)] at ih
      omega

theorem compactF_nil (w : World) : Calls Try.prog 56 #[.slice none 0 0, .func (.func 57) #[] #[]] w fun e w' => e = .returned (.slice none 0 0) ∧ w' = w := by
  go_enter Try.func56, Try.ntmps56
  go_wp2_with fail
  go_ret
  exact ⟨rfl, rfl⟩
theorem compactF_sl (v : Value) (vs : List SV) (G : List Nat) (w : World) (h : Sl w 22 1 encV v vs G) (hok : ∀ s ∈ vs, s.ok (· ∉ G) w) (hl : vs.length ≤ 1000000) :
    Calls Try.prog 56 #[v, .func (.func 57) #[] #[]] w fun e w' => ∃ a c, e = .returned (.slice a (dd vs).length c) ∧ Sl w' 22 1 encV (.slice a (dd vs).length c) (dd vs) G ∧ Frame G w w' := by
  rcases h with ⟨rfl, rfl, rfl⟩ | ⟨b, cap, rfl, rfl, hr⟩
  · refine (compactF_nil w).mono ?_
    rintro e w' ⟨rfl, rfl⟩
    exact ⟨none, 0, rfl, Sl.nil _ _ _ _, Frame.refl _ _⟩
  · refine (compactF_row b cap vs w hr hok hl).mono ?_
    rintro e w' ⟨rfl, hr', f⟩
    exact ⟨_, _, rfl, .inr ⟨b, cap, rfl, rfl, hr'⟩, f⟩

set_option maxHeartbeats 4000000 in
set_option maxRecDepth 100000 in
theorem aleast_any (v : Value) (vs : List SV) (G : List Nat) (w : World) (h : Sl w 22 1 encV v vs G) (hok : ∀ s ∈ vs, s.ok (· ∉ G) w) (hup : ∀ s ∈ vs, Up s.l) (hl : vs.length ≤ 1000000) :
    Calls Try.prog 38 #[v] w fun e w' => ∃ (a : Option Addr) (c : Nat) (out : List SV) (G' : List Nat), e = .returned (.slice a out.length c) ∧ Sl w' 22 1 encV (.slice a out.length c) out G' ∧ (∀ s ∈ out, s ∈ vs) ∧ Fam (vs.map (·.l)) (out.map (·.l)) ∧ Frame G w w' ∧ ∀ x ∈ G', w.heap.size ≤ x := by
  have A := Lib.hid (sortF_sl v vs G w h hok hl)
  have HOK := Lib.hid hok
  have HUP := Lib.hid hup
  have HG := Lib.hid h.lt
  obtain ⟨a0, c0, rfl⟩ := h.form
  clear h hok hup
  go_enter Try.func38, Try.ntmps38
  go_wp2_with fail
  refine A.out.mono ?_
  rintro e w1 ⟨rfl, vs1, hperm, hsorted, s1, f1⟩
  have hlen1 : vs1.length = vs.length := hperm.length_eq
  have B := Lib.hid (compactF_sl _ vs1 G w1 s1 (fun s hs => (HOK.out s (hperm.mem_iff.1 hs)).frame f1 fun b hb => hb) (by omega))
  obtain ⟨hp, hm⟩ := dd_all hsorted
  have hln := dd_len_take vs1 vs1.length
  rw [List.take_length] at hln
  have hsub : Hid (∀ s ∈ dd vs1, s ∈ vs) := fun s hs => hperm.mem_iff.1 (dd_mem _ _ hs)
  have hmem : Hid (∀ x, x ∈ (dd vs1).map (·.l) ↔ x ∈ vs.map (·.l)) := fun x => (hm x).trans (hperm.map _).mem_iff
  have F1 := Lib.hid f1
  have HP := Lib.hid hp
  clear hperm hsorted s1 f1 hp hm
  generalize dd vs1 = ds at *
  go_wp2_with fail
  refine B.out.mono ?_
  rintro e w2 ⟨a2, c2, rfl, s2, f2⟩
  have S2 := Lib.hid s2
  have F2 := Lib.hid ((F1.out.trans1 f2 : Frame G w w2))
  clear s2 f2
  have hdl : ds.length ≤ 1000000 := by omega
  clear hln hlen1
  go_wp2_with fail
  go_loopw [3, 12] (fun u i wr => ∃ (k n c : Nat) (a : Option Addr) (Go : List Nat), k ≤ ds.length ∧ n ≤ k ∧ i = .int .i64 k ∧ u = .slice a n c ∧ Hid (Sl wr 22 1 encV (.slice a n c) (outV (ds.take k)) Go ∧ (outV (ds.take k)).length = n ∧ Frame [] w2 wr ∧ ∀ x ∈ Go, w2.heap.size ≤ x)) (fun _ i _ => ds.length - (intOf i).toNat)
  case atStart => exact ⟨0, 0, 0, none, [], Nat.zero_le _, Nat.le_refl _, rfl, rfl, by
    show _ ∧ _ ∧ _ ∧ _
    exact ⟨by simpa [outV] using Sl.nil _ _ _ _, by simp [outV], Frame.refl _ _, by simp⟩⟩
  case round =>
    obtain ⟨k, n, c, a, Go, hk, hnk, rfl, rfl, hR⟩ := hrel
    rename World => wo
    by_cases hlt : k < ds.length
    · have g1 : ds[k]? = some ds[k] := by simp [hlt]
      have hms : ds[k] ∈ ds := List.getElem_mem _
      obtain ⟨b1, o1, rfl, q1⟩ := RF.atV ((S2.out.rf encV_len (fun _ h => h)).frame0 hR.out.2.2.1) g1
      have NX := Lib.hid (outV_next g1)
      generalize ds[k] = s at *
      have OM := Lib.hid (fun t => outV_mem (ds.take k) t)
      generalize outV (ds.take k) = out at *
      obtain rfl := hR.out.2.1
      have Q1 := Lib.hid q1
      clear g1 q1
      have Fwo : Hid (Frame G w wo) := F2.out.trans1 (hR.out.2.2.1.mono (by simp))
      have OKs : Hid (∀ t, t ∈ ds → t.ok (fun _ => True) wo ∧ Up t.l) := fun t ht => ⟨((HOK.out t (hsub.out t ht)).frame Fwo.out fun b hb => hb).mono fun _ _ => trivial, HUP.out t (hsub.out t ht)⟩
      have hms := Lib.hid hms
      have q1 := Q1.out
      have hos : Hid (∀ t ∈ out, t ∈ ds) := fun t ht => List.mem_of_mem_take (OM.out t ht)
      have T : Hid (TellsV (wo.alloc (.cells #[.slice s.a s.l.length s.c] 22)) 58 #[.pointer (some ⟨wo.heap.size, 0, none⟩)] out (fun t => subB t.l s.l)) := ⟨entered_leastFn, fun w' f t ht => by
        have hb := f.cell ((Blk.new wo 22 #[.slice s.a s.l.length s.c]).at 0 rfl) (by simp)
        obtain ⟨o1, u1⟩ := OKs.out t (hos.out t ht)
        obtain ⟨o2, u2⟩ := OKs.out s hms.out
        have f' := (Frame.alloc [] wo (.cells #[.slice s.a s.l.length s.c] 22)).trans1 f
        exact (leastFn_any t s _ w' hb (o1.frame f' (by simp)) (o2.frame f' (by simp)) u1 u2).mono fun e w'' ⟨he, hw⟩ => ⟨he, by rw [hw]; exact Frame.refl _ _⟩⟩
      have RO : Hid (RF (fun _ => True) (wo.alloc (.cells #[.slice s.a s.l.length s.c] 22)) 1 encV a out) := (hR.out.1.rf encV_len (fun _ _ => trivial)).frame0 (Frame.alloc _ _ _)
      have C := Lib.hid (containsFunc_ints _ a c out _ _ _ _ RO.out (by omega) T.out)
      cases hany : out.any (fun t => subB t.l s.l) with
      | true =>
        rw [hany] at C
        have HA := Lib.hid hany
        clear hany
        go_wp2_with fail
        refine C.out.mono ?_
        rintro e w3 ⟨rfl, f3⟩
        have F3 := Lib.hid ((Frame.alloc [] wo _).trans1 f3)
        clear f3
        go_wp2_with fail
        go_roundw
        case rel => exact ⟨k + 1, out.length, c, a, Go, by omega, by omega, by first | rfl | go_num, rfl, by
          show _ ∧ _ ∧ _ ∧ _
          have e : outV (ds.take (k + 1)) = out := by rw [NX.out]; unfold insV; rw [if_pos HA.out]
          rw [e]
          exact ⟨hR.out.1.frame0 F3.out, rfl, hR.out.2.2.1.trans1 F3.out, hR.out.2.2.2⟩⟩
        case measure => first | (simp [intOf]; done) | (simp [intOf]; omega)
      | false =>
        rw [hany] at C
        have HA := Lib.hid hany
        clear hany
        go_wp2_with fail
        refine C.out.mono ?_
        rintro e w3 ⟨rfl, f3⟩
        have hb := f3.cell ((Blk.new wo 22 #[.slice s.a s.l.length s.c]).at 0 rfl) (by simp)
        have F3 := Lib.hid ((Frame.alloc [] wo _).trans1 f3)
        clear f3
        go_wp2_with (at_builtin; refine wpList_append_rf rfl (.tmp 20) (.tmp 22) 26 rfl 22 1 24 _ encV Try.underlying26 infoInts rfl (by omega) (.slice a out.length c) out out.length rfl Go rfl ((hR.out.1.frame0 F3.out).frame0 (by (repeat first | assumption | exact Frame.refl _ _ | refine Frame.trans1 ?_ (Frame.alloc _ _ _) | refine Frame.trans1 ?_ (Frame.drew _ _) | refine Frame.trans1 ?_ (Frame.drewN _ _ _)))) (fun y => y = _) _ 1 1 [s] rfl (rf_one (Blk.new _ _ _) _ rfl) rfl encV_len encV_one (out.length + 1) rfl (by omega) (by omega) ?_; intro a4 cap4 w4 G4 sl4 f4 hG4; have R4 := Lib.hid (And.intro sl4 (And.intro (show Frame Go wo w4 from (F3.out.mono (by simp)).trans1 ((show Frame Go w3 _ from by (repeat first | assumption | exact Frame.refl _ _ | refine Frame.trans1 ?_ (Frame.alloc _ _ _) | refine Frame.trans1 ?_ (Frame.drew _ _) | refine Frame.trans1 ?_ (Frame.drewN _ _ _))).trans1 f4)) hG4)); clear sl4 f4 hG4)
        go_roundw
        case rel => exact ⟨k + 1, out.length + 1, cap4, a4, G4, by omega, by omega, by first | rfl | go_num, rfl, by
          show _ ∧ _ ∧ _ ∧ _
          have e : outV (ds.take (k + 1)) = out ++ [s] := by rw [NX.out]; unfold insV; rw [if_neg (by rw [HA.out]; simp)]
          rw [e]
          refine ⟨R4.out.1, by simp, hR.out.2.2.1.trans R4.out.2.1 (fun x hx => .inr (hR.out.2.2.2 x hx)), fun x hx => ?_⟩
          rcases R4.out.2.2 x hx with h | h
          · exact hR.out.2.2.2 x h
          · have := hR.out.2.2.1.size
            have := F3.out.size
            have := (Frame.alloc [] w3 (.cells #[.slice s.a s.l.length s.c] 22)).size
            omega⟩
        case measure => first | (simp [intOf]; done) | (simp [intOf]; omega)
    · obtain rfl : k = ds.length := by omega
      go_wp2_with fail
      go_ret
      have h1 := hR.out
      rw [List.take_length] at h1
      obtain ⟨h1, hn, h3, h4⟩ := h1
      refine ⟨a, c, outV ds, Go, by rw [hn]; rfl, by rw [hn]; exact h1, fun s hs => hsub.out s (outV_mem ds s hs), ?_, F2.out.trans0 h3, fun x hx => Nat.le_trans F2.out.size (h4 x hx)⟩
      rw [outV_map]
      refine Fam.congr hmem.out (insL_all ?_ HP.out)
      intro x hx
      obtain ⟨s, hs, rfl⟩ := List.mem_map.1 hx
      exact HUP.out s (hsub.out s hs)
end Go.Proofs.Ytojfemaamhampaa
