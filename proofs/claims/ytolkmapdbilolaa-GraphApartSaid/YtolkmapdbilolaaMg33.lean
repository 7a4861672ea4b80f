/- The reference's Set. -/
import Derived.Test.YtolkmapdbilolaaMg32
namespace Go.Proofs.Ytolkmapdbilolaa
open Go.RowKit
set_option linter.unusedSimpArgs false
set_option linter.unusedVariables false

/-- One round of Set's loop. -/
def stepP (s v : ByteArray) (st : List Pr × Bool) (p : Pr) : List Pr × Bool :=
  let q := if st.2 = false ∧ ltS p.name s = false then (st.1 ++ [⟨s, v⟩], true) else st
  if p.name = s then q else (q.1 ++ [p], q.2)
def runP (s v : ByteArray) (ps : List Pr) : List Pr × Bool := ps.foldl (stepP s v) ([], false)
def setP (s v : ByteArray) (ps : List Pr) : List Pr := if (runP s v ps).2 = true then (runP s v ps).1 else (runP s v ps).1 ++ [⟨s, v⟩]
theorem runP_next {s v : ByteArray} {ps : List Pr} {k : Nat} {p : Pr} (h : ps[k]? = some p) : runP s v (ps.take (k + 1)) = stepP s v (runP s v (ps.take k)) p := by rw [take_one' h]; simp [runP]
theorem runP_lt {s v : ByteArray} : ∀ (A l : List Pr), (∀ p ∈ A, ltS p.name s = true) → A.foldl (stepP s v) (l, false) = (l ++ A, false)
  | [], l, _ => by simp
  | p :: A, l, h => by
    have h1 := h p (by simp)
    have h2 : p.name ≠ s := fun e => by rw [e, ltS_irrefl] at h1; cases h1
    rw [List.foldl_cons, show stepP s v (l, false) p = (l ++ [p], false) by simp [stepP, h1, h2], runP_lt A _ (fun q hq => h q (by simp [hq]))]
    simp
theorem runP_gt {s v : ByteArray} : ∀ (A l : List Pr), (∀ p ∈ A, p.name ≠ s) → A.foldl (stepP s v) (l, true) = (l ++ A, true)
  | [], l, _ => by simp
  | p :: A, l, h => by
    have h2 := h p (by simp)
    rw [List.foldl_cons, show stepP s v (l, true) p = (l ++ [p], true) by simp [stepP, h2], runP_gt A _ (fun q hq => h q (by simp [hq]))]
    simp
theorem setP_mid {s v : ByteArray} (A B : List Pr) (hA : ∀ p ∈ A, ltS p.name s = true) (hB : ∀ p ∈ B, ltS p.name s = false ∧ p.name ≠ s) : setP s v (A ++ B) = A ++ ⟨s, v⟩ :: B := by
  unfold setP runP
  rw [List.foldl_append, runP_lt A [] hA]
  cases B with
  | nil => simp
  | cons p B =>
    have h := hB p (by simp)
    rw [List.foldl_cons, show stepP s v ([] ++ A, false) p = (A ++ [⟨s, v⟩] ++ [p], true) by simp [stepP, h.1, h.2], runP_gt B _ (fun q hq => (hB q (by simp [hq])).2)]
    simp
theorem setP_has {s v : ByteArray} (A B : List Pr) (p : Pr) (hp : p.name = s) (hA : ∀ p ∈ A, ltS p.name s = true) (hB : ∀ p ∈ B, p.name ≠ s) : setP s v (A ++ p :: B) = A ++ ⟨s, v⟩ :: B := by
  unfold setP runP
  rw [List.foldl_append, runP_lt A [] hA, List.foldl_cons, show stepP s v ([] ++ A, false) p = (A ++ [⟨s, v⟩], true) by simp [stepP, hp, ltS_irrefl], runP_gt B _ hB]
  simp
/-- Set's loop and the row by rank. -/
theorem setP_is {s v : ByteArray} {ps : List Pr} (hu : UpS (ps.map (·.name))) :
    setP s v ps = if memS s (ps.map (·.name)) = true then ps.take (rankS (ps.map (·.name)) s) ++ ⟨s, v⟩ :: ps.drop (rankS (ps.map (·.name)) s + 1) else ps.take (rankS (ps.map (·.name)) s) ++ ⟨s, v⟩ :: ps.drop (rankS (ps.map (·.name)) s) := by
  obtain ⟨h1, h2⟩ := rankS_lt (t := s) hu
  have h3 := rankS_le (ps.map (·.name)) s
  generalize rankS (ps.map (·.name)) s = r at *
  rw [List.length_map] at h3
  have hA : ∀ p ∈ ps.take r, ltS p.name s = true := fun p hp => by
    obtain ⟨j, hj, rfl⟩ := List.getElem_of_mem hp
    have hj2 : j < r ∧ j < ps.length := by simp at hj; omega
    have := h1 j (by simpa using hj2.2) hj2.1
    simpa using this
  have hB : ∀ p ∈ ps.drop r, ltS p.name s = false := fun p hp => by
    obtain ⟨j, hj, rfl⟩ := List.getElem_of_mem hp
    have hj2 : r + j < ps.length := by simp at hj; omega
    have := h2 (r + j) (by simpa using hj2) (by omega)
    simpa using this
  have hpw : (ps.drop r).Pairwise (fun a b => ltS a.name b.name = true) := by
    have := List.pairwise_map.1 hu
    exact this.sublist (List.drop_sublist _ _)
  by_cases hm : memS s (ps.map (·.name)) = true
  · rw [if_pos hm]
    obtain ⟨p, hp, hps⟩ := List.mem_map.1 (memS_iff.1 hm)
    have hpB : p ∈ ps.drop r := by
      rw [← List.take_append_drop r ps, List.mem_append] at hp
      rcases hp with h | h
      · have := hA p h; rw [hps, ltS_irrefl] at this; cases this
      · exact h
    have hdr : ps.drop (r + 1) = (ps.drop r).drop 1 := by rw [List.drop_drop]
    rw [hdr]
    conv => lhs; rw [← List.take_append_drop r ps]
    cases hd : ps.drop r with
    | nil => rw [hd] at hpB; simp at hpB
    | cons q B =>
      rw [hd] at hpB hpw hB
      have hq : q.name = s := by
        rcases List.mem_cons.1 hpB with rfl | hpB
        · exact hps
        · have := (List.pairwise_cons.1 hpw).1 p hpB
          rw [hps, hB q (by simp)] at this
          cases this
      rw [setP_has _ _ q hq hA (fun z hz he => by
        have := (List.pairwise_cons.1 hpw).1 z hz
        rw [he, hq, ltS_irrefl] at this
        cases this)]
      simp
  · rw [if_neg hm]
    conv => lhs; rw [← List.take_append_drop r ps]
    exact setP_mid _ _ hA (fun p hp => ⟨hB p hp, fun e => hm (memS_iff.2 (List.mem_map.2 ⟨p, List.mem_of_mem_drop hp, e⟩))⟩)
theorem setP_len {s v : ByteArray} {ps : List Pr} (hu : UpS (ps.map (·.name))) : (setP s v ps).length = if memS s (ps.map (·.name)) = true then ps.length else ps.length + 1 := by
  rw [setP_is hu]
  have h3 := rankS_le (ps.map (·.name)) s
  rw [List.length_map] at h3
  by_cases hm : memS s (ps.map (·.name)) = true
  · rw [if_pos hm, if_pos hm]
    obtain ⟨p, hp, hps⟩ := List.mem_map.1 (memS_iff.1 hm)
    have : rankS (ps.map (·.name)) s < ps.length := by
      rcases Nat.lt_or_ge (rankS (ps.map (·.name)) s) ps.length with h | h
      · exact h
      · obtain ⟨h1, h2⟩ := rankS_lt (t := s) hu
        obtain ⟨j, hj, e⟩ := List.getElem_of_mem hp
        have := h1 j (by simpa using hj) (by omega)
        rw [List.getElem_map, e, hps, ltS_irrefl] at this
        cases this
    simp
    omega
  · rw [if_neg hm, if_neg hm]
    simp
    omega

/-- Set's list in the middle of its loop. -/
def RSt (w4 wr : World) (l : List Pr) (a : Option Addr) (n c : Nat) (G : List Nat) : Prop := Sl wr 129 2 Pr.cs (.slice a n c) l G ∧ l.length = n ∧ Frame [] w4 wr ∧ ∀ x ∈ G, w4.heap.size ≤ x
theorem RSt.app {w4 wo w5 : World} {l : List Pr} {a a5 : Option Addr} {n c cap5 : Nat} {G G5 : List Nat} {o : Obj} {x : Pr} (h : RSt w4 wo l a n c G) (sl5 : Sl w5 129 2 Pr.cs (.slice a5 (n + 1) cap5) (l ++ [x]) G5) (f5 : Frame G (wo.alloc o) w5) (hG5 : ∀ y ∈ G5, y ∈ G ∨ (wo.alloc o).heap.size ≤ y) : RSt w4 w5 (l ++ [x]) a5 (n + 1) cap5 G5 := by
  obtain ⟨h1, h2, h3, h4⟩ := h
  refine ⟨sl5, by simp [h2], h3.trans ((Frame.alloc G wo _).trans1 f5) (fun y hy => .inr (h4 y hy)), fun y hy => ?_⟩
  have := h3.size
  rcases hG5 y hy with h | h
  · exact h4 y h
  · simp at h; omega

set_option maxHeartbeats 8000000 in
set_option maxRecDepth 100000 in
theorem rg_set {w : World} {rb : Nat} {D : List Nat} {ns : List Nv} {es : List Ed} {next : Int} (h : RGv w rb D ns es next) (hu : Up (ns.map (·.1))) (hlen : ns.length ≤ 1000000) (hok : ∀ n ∈ ns, UpS (n.2.2.map (·.name)) ∧ n.2.2.length ≤ 8) (t : Int) (s v : ByteArray) (hs : s.size ≤ 9223372036854775807) (hv : v.size ≤ 9223372036854775807) :
    Calls Try.prog 94 #[.pointer (some ⟨rb, 0, none⟩), .int .i64 t, .string s, .string v] w fun e w' => e = .returned (.int .i64 (vSet ns t s v).1) ∧ RGEnd w rb D (vSet ns t s v).2 es next w' := by
  have H0 := Lib.hid h
  obtain ⟨zs, hz, hns⟩ := id h
  have hl : zs.length = ns.length := by rw [← hns, List.length_map]
  obtain ⟨m1, m2, m3, an, nc, ae, ec, hb, m5, hrf, hcp1, hcp2⟩ := id hz
  rw [hl] at hb hcp1
  have hrn : RN (· ∈ D) w an ns := by rw [← hns]; exact rn_of_zn m5 m3
  have HZ := Lib.hid hz
  have HB := Lib.hid hb
  have HM := Lib.hid (And.intro m3 (And.intro m5 (And.intro hl hns)))
  have HPL := Lib.hid (fun w' (f : Frame [] w w') => place_any (· ∈ D) an ae nc es.length ec ns next t w' (hrn.frame0 f) hlen)
  have c0 := hb.at 0 rfl
  have c1 := hb.at 1 rfl
  have c2 := hb.at 2 rfl
  have blt := hb.lt
  have HNM := Lib.hid (fun w' => rname_any s w' hs)
  have HNV := Lib.hid (fun w' => rname_any v w' hv)
  clear hb hrn hz m1 m2 m3 m5 hrf hns hl hs hv
  by_cases hnm : namedB s = true
  case neg =>
    have e : vSet ns t s v = (2, ns) := by unfold vSet; rw [if_pos (.inl (by simpa using hnm))]
    rw [e]
    rw [show namedB s = false by simpa using hnm] at HNM
    clear e hu hok hnm
    go_enter Try.func94, Try.ntmps94
    go_wp2_with fail
    refine (HNM.out _).mono ?_
    rintro e w2 ⟨rfl, hw2⟩
    obtain rfl : w = w2 := hw2.symm
    clear hw2
    go_wp2_with fail
    go_ret
    exact ⟨rfl, RGEnd.quiet H0.out (by (repeat first | assumption | exact Frame.refl _ _ | refine Frame.trans1 ?_ (Frame.alloc _ _ _) | refine Frame.trans1 ?_ (Frame.drew _ _) | refine Frame.trans1 ?_ (Frame.drewN _ _ _)))⟩
  rw [hnm] at HNM
  by_cases hnv : namedB v = true
  case neg =>
    have e : vSet ns t s v = (2, ns) := by unfold vSet; rw [if_pos (.inr (by simpa using hnv))]
    rw [e]
    rw [show namedB v = false by simpa using hnv] at HNV
    clear e hu hok hnv
    go_enter Try.func94, Try.ntmps94
    go_wp2_with fail
    refine (HNM.out _).mono ?_
    rintro e w2 ⟨rfl, hw2⟩
    obtain rfl : w = w2 := hw2.symm
    clear hw2
    go_wp2_with fail
    refine (HNV.out _).mono ?_
    rintro e w2 ⟨rfl, hw2⟩
    obtain rfl : w = w2 := hw2.symm
    clear hw2
    go_wp2_with fail
    go_ret
    exact ⟨rfl, RGEnd.quiet H0.out (by (repeat first | assumption | exact Frame.refl _ _ | refine Frame.trans1 ?_ (Frame.alloc _ _ _) | refine Frame.trans1 ?_ (Frame.drew _ _) | refine Frame.trans1 ?_ (Frame.drewN _ _ _)))⟩
  rw [hnv] at HNV
  by_cases ht : t ∈ ns.map (·.1)
  case neg =>
    have e : vSet ns t s v = (7, ns) := by unfold vSet; rw [if_neg (by simp [hnm, hnv]), if_pos ht]
    rw [e]
    have hp : placeV ns t < 0 := by rcases Int.lt_or_le (placeV ns t) 0 with h | h; exact h; exact absurd (placeV_mem.1 h) ht
    have hd : decide (placeV ns t < 0) = true := by simpa using hp
    clear e ht hu hok hnm hnv
    go_enter Try.func94, Try.ntmps94
    go_wp2_with fail
    refine (HNM.out _).mono ?_
    rintro e w2 ⟨rfl, hw2⟩
    obtain rfl : w = w2 := hw2.symm
    clear hw2
    go_wp2_with fail
    refine (HNV.out _).mono ?_
    rintro e w2 ⟨rfl, hw2⟩
    obtain rfl : w = w2 := hw2.symm
    clear hw2
    go_wp2_with fail
    refine (HPL.out _ (by (repeat first | assumption | exact Frame.refl _ _ | refine Frame.trans1 ?_ (Frame.alloc _ _ _) | refine Frame.trans1 ?_ (Frame.drew _ _) | refine Frame.trans1 ?_ (Frame.drewN _ _ _)))).mono ?_
    rintro e w3 ⟨rfl, f3⟩
    have F3 := Lib.hid f3
    clear f3
    go_wp2_with fail
    go_ret
    exact ⟨rfl, RGEnd.quiet H0.out F3.out⟩
  obtain ⟨hpr, hrk⟩ := placeV_rank hu ht
  have hzk : zs[rank (ns.map (·.1)) t]? = some (zs[rank (ns.map (·.1)) t]'(by rw [HM.out.2.2.1]; exact hrk)) := by simp
  generalize zs[rank (ns.map (·.1)) t]'(by rw [HM.out.2.2.1]; exact hrk) = zk at hzk
  have hnk : ns[rank (ns.map (·.1)) t]? = some zk.v := by rw [← HM.out.2.2.2, List.getElem?_map, HM.out.2.2.2, hzk]; rfl
  have hup : UpS (zk.ps.map (·.name)) := (hok _ (List.mem_of_getElem? hnk)).1
  have hl8 : zk.ps.length ≤ 8 := (hok _ (List.mem_of_getElem? hnk)).2
  have HV : Hid (vSet ns t s v = if 8 < (setP s v zk.ps).length then (5, ns) else (0, (zs.set (rank (ns.map (·.1)) t) ⟨zk.nd, zk.ls, setP s v zk.ps⟩).map Zn.v)) := by
    show _ = _
    unfold vSet
    rw [if_neg (by simp [hnm, hnv]), if_neg (by simpa using ht), hnk, setP_len hup]
    show (if memS s (zk.ps.map (·.name)) = true then _ else if 8 ≤ zk.ps.length then _ else _) = _
    by_cases h1 : memS s (zk.ps.map (·.name)) = true
    · rw [if_pos h1, if_neg (by rw [if_pos h1]; omega), List.map_set, HM.out.2.2.2, List.set_eq_take_append_cons_drop, if_pos hrk, setP_is hup, if_pos h1]
      rfl
    · rw [if_neg h1, if_neg h1]
      by_cases h2 : 8 ≤ zk.ps.length
      · rw [if_pos h2, if_pos (by omega)]
      · rw [if_neg h2, if_neg (by omega), List.map_set, HM.out.2.2.2, List.set_eq_take_append_cons_drop, if_pos hrk, setP_is hup, if_neg h1]
        rfl
  generalize vSet ns t s v = q at *
  rw [hpr] at HPL
  have HK := Lib.hid hnk
  clear hnk
  generalize rank (ns.map (·.1)) t = r at *
  have HZK := Lib.hid hzk
  have hzok := HM.out.1 zk (List.mem_of_getElem? hzk)
  obtain ⟨zl, zp, zla, zpa⟩ := hzok
  clear ht hu hpr hok hnm hnv hzk hup
  have ZL := Lib.hid (And.intro zl zla)
  have ZP := Lib.hid zpa
  clear zla zpa zl
  have hrz : r < zs.length := by rw [HM.out.2.2.1]; exact hrk
  go_enter Try.func94, Try.ntmps94
  go_wp2_with fail
  refine (HNM.out _).mono ?_
  rintro e w2 ⟨rfl, hw2⟩
  obtain rfl : w = w2 := hw2.symm
  clear hw2
  go_wp2_with fail
  refine (HNV.out _).mono ?_
  rintro e w2 ⟨rfl, hw2⟩
  obtain rfl : w = w2 := hw2.symm
  clear hw2
  go_wp2_with fail
  refine (HPL.out _ (by (repeat first | assumption | exact Frame.refl _ _ | refine Frame.trans1 ?_ (Frame.alloc _ _ _) | refine Frame.trans1 ?_ (Frame.drew _ _) | refine Frame.trans1 ?_ (Frame.drewN _ _ _)))).mono ?_
  rintro e w3 ⟨rfl, f3⟩
  have F3 := Lib.hid f3
  have hb3 := HB.out.frame f3 (by simp)
  have d0 := hb3.at 0 rfl
  obtain ⟨b, off, rfl, hbD, q1⟩ := (HM.out.2.1.frame0 f3) r _ HZK.out
  have x0 := q1 0 _ rfl
  have x1 := q1 1 _ rfl
  have x2 := q1 2 _ rfl
  simp only [Nat.add_zero] at x0
  clear f3 c0 c1 c2 hb3 q1
  go_wp2_with fail
  have fz : Frame [] w (w3.alloc (.cells #[.int .i64 zk.nd.id, .slice zk.nd.la zk.nd.ln zk.nd.lc, .slice zk.nd.pa zk.ps.length zk.nd.pc] 86)) := F3.out.trans1 (Frame.alloc _ _ _)
  have bz := Blk.new w3 86 #[.int .i64 zk.nd.id, .slice zk.nd.la zk.nd.ln zk.nd.lc, .slice zk.nd.pa zk.ps.length zk.nd.pc]
  have hz3 := F3.out.size
  generalize (w3.alloc (.cells #[.int .i64 zk.nd.id, .slice zk.nd.la zk.nd.ln zk.nd.lc, .slice zk.nd.pa zk.ps.length zk.nd.pc] 86)) = w4 at *
  generalize w3.heap.size = zb at *
  have FZ := Lib.hid fz
  have BZ := Lib.hid bz
  clear d0 x0 x1 x2 fz bz F3
  go_loopw [11, 12, 13] (fun lv dv i wr => ∃ (k n c : Nat) (a : Option Addr) (G : List Nat) (dn : Bool), k ≤ zk.ps.length ∧ n ≤ 2 * k ∧ i = .int .i64 k ∧ dv = .bool dn ∧ lv = .slice a n c ∧ Hid (RSt w4 wr (runP s v (zk.ps.take k)).1 a n c G ∧ (runP s v (zk.ps.take k)).2 = dn)) (fun _ _ i _ => zk.ps.length - (intOf i).toNat)
  case atStart => exact ⟨0, 0, 0, none, [], false, Nat.zero_le _, Nat.le_refl _, rfl, rfl, rfl, by
    show _ ∧ _
    exact ⟨⟨by simpa [runP] using Sl.nil _ _ _ _, by simp [runP], Frame.refl _ _, by simp⟩, by simp [runP]⟩⟩
  case round =>
    obtain ⟨k, n, c, a, G, dn, hk, hnk, rfl, rfl, rfl, hR⟩ := hrel
    rename World => wo
    have HR := Lib.hid hR.out.1
    have HDN := Lib.hid hR.out.2
    clear hR
    have bo := BZ.out.frame HR.out.2.2.1 (by simp)
    have n2 := bo.at 2 rfl
    clear bo
    by_cases hlt : k < zk.ps.length
    · have g1 : zk.ps[k]? = some zk.ps[k] := by simp [hlt]
      obtain ⟨b1, o1, hb1, -, q1⟩ := (ZP.out.frame0 (FZ.out.trans1 HR.out.2.2.1)) k _ g1
      have QP : Hid (∀ w', Frame [] w4 w' → w'.cell? ⟨b1, o1 + k * 2, none⟩ = some (.string (zk.ps[k]).name) ∧ w'.cell? ⟨b1, o1 + k * 2 + 1, none⟩ = some (.string (zk.ps[k]).val)) := by
        show ∀ w', _
        intro w' f'
        obtain ⟨b2, o2, hb2, -, q2⟩ := (ZP.out.frame0 (FZ.out.trans1 f')) k _ g1
        rw [hb1] at hb2
        simp at hb2
        obtain ⟨rfl, rfl⟩ := hb2
        exact ⟨by simpa using q2 0 _ rfl, q2 1 _ rfl⟩
      have x0 := (QP.out _ HR.out.2.2.1).1
      have x1 := (QP.out _ HR.out.2.2.1).2
      generalize zk.ps[k] = p at *
      have NX := Lib.hid (runP_next (s := s) (v := v) g1)
      rw [hb1] at n2
      have HB1 := Lib.hid hb1
      clear g1 q1 hb1
      generalize runP s v (zk.ps.take k) = st at *
      obtain ⟨l, dn'⟩ := st
      obtain rfl : dn' = dn := HDN.out
      by_cases hps : p.name = s
      · have hbe := beq_toList_true hps
        cases dn' with
        | true =>
          have HPS := Lib.hid hps
          have E : Hid (stepP s v (l, true) p = (l, true)) := by
            show _ = _
            simp [stepP, HPS.out, ltS_irrefl]
          clear hps
          go_wp2_with fail
          go_roundw
          case rel => exact ⟨k + 1, n, c, a, G, true, by omega, by omega, by first | rfl | go_num, rfl, rfl, by
            show _ ∧ _
            rw [NX.out, E.out]
            exact ⟨HR.out, rfl⟩⟩
          case measure => first | (simp [intOf]; done) | (simp [intOf]; omega)
        | false =>
          have hll : Op.bytesLess p.name.toList s.toList = false := by have := ltS_irrefl s; rw [← hps] at this ⊢; exact this
          have HPS := Lib.hid hps
          have HLL := Lib.hid hll
          have E : Hid (stepP s v (l, false) p = (l ++ [(⟨s, v⟩ : Pr)], true)) := by
            show _ = _
            have HLT : ltS p.name s = false := HLL.out
            simp [stepP, HPS.out, ltS_irrefl, HLT]
          clear hps
          go_wp2_with (at_builtin; refine wpList_append_rf rfl (.tmp 57) (.tmp 61) 84 rfl 129 2 32 _ Pr.cs Try.underlying84 infoProp rfl (by omega) (.slice a (n) c) l (n) HR.out.2.1 G rfl (HR.out.1.frame0 (Frame.alloc _ _ _)) (fun y => y = wo.heap.size) _ 1 1 [(⟨s, v⟩ : Pr)] rfl (rf_one (Blk.new _ _ _) _ rfl) rfl pr_len pr_one ((n) + 1) rfl (by omega) (by omega) ?_; intro a5 cap5 w5 G5 sl5 f5 hG5; have R5 := Lib.hid (RSt.app HR.out sl5 f5 hG5); clear sl5 f5 hG5; have bb5 := BZ.out.frame R5.out.2.2.1 (by simp); have n52 := bb5.at 2 rfl; clear bb5; rw [HB1.out] at n52; have x50 := (QP.out _ R5.out.2.2.1).1; have x51 := (QP.out _ R5.out.2.2.1).2)
          go_roundw
          case rel => exact ⟨k + 1, n + 1, cap5, a5, G5, true, by omega, by omega, by first | rfl | go_num, rfl, rfl, by
            show _ ∧ _
            rw [NX.out, E.out]
            exact ⟨R5.out, rfl⟩⟩
          case measure => first | (simp [intOf]; done) | (simp [intOf]; omega)
      · have hbe := beq_toList_false hps
        cases dn' with
        | true =>
          have HPS := Lib.hid hps
          have E : Hid (stepP s v (l, true) p = (l ++ [p], true)) := by
            show _ = _
            simp [stepP, HPS.out, ltS_irrefl]
          clear hps
          go_wp2_with (at_builtin; refine wpList_append_rf rfl (.tmp 71) (.tmp 77) 84 rfl 129 2 32 _ Pr.cs Try.underlying84 infoProp rfl (by omega) (.slice a (n) c) l (n) HR.out.2.1 G rfl (HR.out.1.frame0 (Frame.alloc _ _ _)) (fun y => y = wo.heap.size) _ 1 1 [p] rfl (rf_one (Blk.new _ _ _) _ rfl) rfl pr_len pr_one ((n) + 1) rfl (by omega) (by omega) ?_; intro a5 cap5 w5 G5 sl5 f5 hG5; have R5 := Lib.hid (RSt.app HR.out sl5 f5 hG5); clear sl5 f5 hG5; have bb5 := BZ.out.frame R5.out.2.2.1 (by simp); have n52 := bb5.at 2 rfl; clear bb5; rw [HB1.out] at n52; have x50 := (QP.out _ R5.out.2.2.1).1; have x51 := (QP.out _ R5.out.2.2.1).2)
          go_roundw
          case rel => exact ⟨k + 1, n + 1, cap5, a5, G5, true, by omega, by omega, by first | rfl | go_num, rfl, rfl, by
            show _ ∧ _
            rw [NX.out, E.out]
            exact ⟨R5.out, rfl⟩⟩
          case measure => first | (simp [intOf]; done) | (simp [intOf]; omega)
        | false =>
          by_cases hll : Op.bytesLess p.name.toList s.toList = true
          · 
            have HPS := Lib.hid hps
            have HLL := Lib.hid hll
            have E : Hid (stepP s v (l, false) p = (l ++ [p], false)) := by
              show _ = _
              have HLT : ltS p.name s = true := HLL.out
              simp [stepP, HPS.out, ltS_irrefl, HLT]
            clear hps
            go_wp2_with (at_builtin; refine wpList_append_rf rfl (.tmp 71) (.tmp 77) 84 rfl 129 2 32 _ Pr.cs Try.underlying84 infoProp rfl (by omega) (.slice a (n) c) l (n) HR.out.2.1 G rfl (HR.out.1.frame0 (Frame.alloc _ _ _)) (fun y => y = wo.heap.size) _ 1 1 [p] rfl (rf_one (Blk.new _ _ _) _ rfl) rfl pr_len pr_one ((n) + 1) rfl (by omega) (by omega) ?_; intro a5 cap5 w5 G5 sl5 f5 hG5; have R5 := Lib.hid (RSt.app HR.out sl5 f5 hG5); clear sl5 f5 hG5; have bb5 := BZ.out.frame R5.out.2.2.1 (by simp); have n52 := bb5.at 2 rfl; clear bb5; rw [HB1.out] at n52; have x50 := (QP.out _ R5.out.2.2.1).1; have x51 := (QP.out _ R5.out.2.2.1).2)
            go_roundw
            case rel => exact ⟨k + 1, n + 1, cap5, a5, G5, false, by omega, by omega, by first | rfl | go_num, rfl, rfl, by
              show _ ∧ _
              rw [NX.out, E.out]
              exact ⟨R5.out, rfl⟩⟩
            case measure => first | (simp [intOf]; done) | (simp [intOf]; omega)
          · replace hll : Op.bytesLess p.name.toList s.toList = false := by simpa using hll
            have HPS := Lib.hid hps
            have HLL := Lib.hid hll
            have E : Hid (stepP s v (l, false) p = (l ++ [(⟨s, v⟩ : Pr)] ++ [p], true)) := by
              show _ = _
              have HLT : ltS p.name s = false := HLL.out
              simp [stepP, HPS.out, ltS_irrefl, HLT]
            clear hps
            go_wp2_with first
              | (at_builtin; refine wpList_append_rf rfl (.tmp 57) (.tmp 61) 84 rfl 129 2 32 _ Pr.cs Try.underlying84 infoProp rfl (by omega) (.slice a (n) c) l (n) HR.out.2.1 G rfl (HR.out.1.frame0 (Frame.alloc _ _ _)) (fun y => y = wo.heap.size) _ 1 1 [(⟨s, v⟩ : Pr)] rfl (rf_one (Blk.new _ _ _) _ rfl) rfl pr_len pr_one ((n) + 1) rfl (by omega) (by omega) ?_; intro a5 cap5 w5 G5 sl5 f5 hG5; have R5 := Lib.hid (RSt.app HR.out sl5 f5 hG5); clear sl5 f5 hG5; have bb5 := BZ.out.frame R5.out.2.2.1 (by simp); have n52 := bb5.at 2 rfl; clear bb5; rw [HB1.out] at n52; have x50 := (QP.out _ R5.out.2.2.1).1; have x51 := (QP.out _ R5.out.2.2.1).2)
              | (at_builtin; refine wpList_append_rf rfl (.tmp 71) (.tmp 77) 84 rfl 129 2 32 _ Pr.cs Try.underlying84 infoProp rfl (by omega) (.slice a5 (n + 1) cap5) (l ++ [(⟨s, v⟩ : Pr)]) (n + 1) R5.out.2.1 G5 rfl (R5.out.1.frame0 (Frame.alloc _ _ _)) (fun y => y = w5.heap.size) _ 1 1 [p] rfl (rf_one (Blk.new _ _ _) _ rfl) rfl pr_len pr_one ((n + 1) + 1) rfl (by omega) (by omega) ?_; intro a6 cap6 w6 G6 sl6 f6 hG6; have R6 := Lib.hid (RSt.app R5.out sl6 f6 hG6); clear sl6 f6 hG6; have bb6 := BZ.out.frame R6.out.2.2.1 (by simp); have n62 := bb6.at 2 rfl; clear bb6; rw [HB1.out] at n62; have x60 := (QP.out _ R6.out.2.2.1).1; have x61 := (QP.out _ R6.out.2.2.1).2)
            go_roundw
            case rel => exact ⟨k + 1, n + 1 + 1, cap6, a6, G6, true, by omega, by omega, by first | rfl | go_num, rfl, rfl, by
              show _ ∧ _
              rw [NX.out, E.out]
              exact ⟨R6.out, rfl⟩⟩
            case measure => first | (simp [intOf]; done) | (simp [intOf]; omega)
    · obtain rfl : k = zk.ps.length := by omega
      rw [List.take_length] at HR HDN
      cases dn with
      | true =>
        have SP : Hid ((runP s v zk.ps).1 = setP s v zk.ps) := by
          show _ = _
          unfold setP
          rw [if_pos HDN.out]
        rw [SP.out] at HR
        have hsl : (setP s v zk.ps).length = n := HR.out.2.1
        have HSL := Lib.hid hsl
        clear hsl
        have zlt := BZ.out.lt
        have bf := BZ.out.frame HR.out.2.2.1 (by simp)
        have p0 := bf.at 0 rfl
        have p1 := bf.at 1 rfl
        have p2 := bf.at 2 rfl
        have p3 := bf.frozen 2
        have bg := bf.set 2 (.slice a (n) c)
        have o0 := bg.at 0 rfl
        have o1 := bg.at 1 rfl
        have o2 := bg.at 2 rfl
        clear bf bg
        by_cases h8 : 8 < n
        · have hd8 : decide ((8 : Int) < ((n : Nat) : Int)) = true := by simp; omega
          have hd8' : decide ((8 : Int) < (n : Int)) = true := by simp; omega
          have E : Hid (q = (5, ns)) := by
            show _ = _
            rw [HV.out, if_pos (by rw [HSL.out]; exact h8)]
          clear h8
          go_wp2_with fail
          go_ret
          rw [E.out]
          exact ⟨rfl, RGEnd.quiet H0.out (FZ.out.trans1 HR.out.2.2.1)⟩
        have hd8 : decide ((8 : Int) < ((n : Nat) : Int)) = false := by simp; omega
        have hd8' : decide ((8 : Int) < (n : Int)) = false := by simp; omega
        have E : Hid (q = (0, (zs.set r ⟨zk.nd, zk.ls, setP s v zk.ps⟩).map Zn.v)) := by
          show _ = _
          rw [HV.out, if_neg (by rw [HSL.out]; exact h8)]
        clear h8
        go_wp2_with fail
        have fS : Frame [zb] wo (wo.setCell ⟨zb, 2, none⟩ (.slice a (n) c)) := Frame.setCell _ _ _ (by simp)
        have fw : Frame [] w (wo.setCell ⟨zb, 2, none⟩ (.slice a (n) c)) := (FZ.out.trans1 HR.out.2.2.1).trans fS (fun x hx => by simp at hx; subst hx; right; exact hz3)
        have sS := fS.size
        have hne : ∀ x ∈ G, x ∉ [zb] := fun x hx hm => by simp at hm; subst hm; have := HR.out.2.2.2 x hx; omega
        have hz4 := FZ.out.size
        refine (rg_change' HZ.out fw (by rw [HM.out.2.2.1]; exact hlen) r hrz ⟨⟨zk.nd.id, zk.nd.la, zk.nd.ln, zk.nd.lc, a, n, c⟩, zk.ls, setP s v zk.ps⟩ ⟨ZL.out.1, HSL.out.symm, ?_, ?_⟩).mono ?_
        · exact (ZL.out.2.frame fw (by simp)).mono (fun b hb => .inl hb)
        · exact (HR.out.1.frame fS hne).rf pr_len (fun x hx => .inr ⟨by have := HR.out.2.2.2 x hx; omega, Nat.lt_of_lt_of_le (HR.out.1.lt x hx) sS⟩)
        rintro e w9 ⟨rfl, hE⟩
        have HE := Lib.hid hE
        clear hE fS fw hne p0 p1 p2 p3 o0 o1 o2
        go_wp2_with fail
        go_ret
        rw [E.out]
        refine ⟨rfl, ?_⟩
        have := HE.out
        rw [List.map_set] at this ⊢
        exact this
      | false =>
        have SP : Hid ((runP s v zk.ps).1 ++ [⟨s, v⟩] = setP s v zk.ps) := by
          show _ = _
          unfold setP
          rw [if_neg (by rw [HDN.out]; simp)]
        have hsl : (setP s v zk.ps).length = n + 1 := by rw [← SP.out]; simp [HR.out.2.1]
        have HSL := Lib.hid hsl
        clear hsl
        have zlt := BZ.out.lt
        by_cases h8 : 8 < n + 1
        · have hd8 : decide ((8 : Int) < ((n + 1 : Nat) : Int)) = true := by simp; omega
          have hd8' : decide ((8 : Int) < (n + 1 : Int)) = true := by simp; omega
          have E : Hid (q = (5, ns)) := by
            show _ = _
            rw [HV.out, if_pos (by rw [HSL.out]; exact h8)]
          clear h8
          go_wp2_with (at_builtin; refine wpList_append_rf rfl (.tmp 81) (.tmp 85) 84 rfl 129 2 32 _ Pr.cs Try.underlying84 infoProp rfl (by omega) (.slice a (n) c) (runP s v zk.ps).1 (n) HR.out.2.1 G rfl (HR.out.1.frame0 (Frame.alloc _ _ _)) (fun y => y = wo.heap.size) _ 1 1 [(⟨s, v⟩ : Pr)] rfl (rf_one (Blk.new _ _ _) _ rfl) rfl pr_len pr_one ((n) + 1) rfl (by omega) (by omega) ?_; intro a5 cap5 w5 G5 sl5 f5 hG5; have R5 := Lib.hid (RSt.app HR.out sl5 f5 hG5); clear sl5 f5 hG5; have bb5 := BZ.out.frame R5.out.2.2.1 (by simp); have n52 := bb5.at 2 rfl; clear bb5; have bf := BZ.out.frame R5.out.2.2.1 (by simp); have p0 := bf.at 0 rfl; have p1 := bf.at 1 rfl; have p2 := bf.at 2 rfl; have p3 := bf.frozen 2; have bg := bf.set 2 (.slice a5 (n + 1) cap5); have o0 := bg.at 0 rfl; have o1 := bg.at 1 rfl; have o2 := bg.at 2 rfl; clear bf bg; rw [SP.out] at R5)
          go_ret
          rw [E.out]
          exact ⟨rfl, RGEnd.quiet H0.out (FZ.out.trans1 R5.out.2.2.1)⟩
        have hd8 : decide ((8 : Int) < ((n + 1 : Nat) : Int)) = false := by simp; omega
        have hd8' : decide ((8 : Int) < (n + 1 : Int)) = false := by simp; omega
        have E : Hid (q = (0, (zs.set r ⟨zk.nd, zk.ls, setP s v zk.ps⟩).map Zn.v)) := by
          show _ = _
          rw [HV.out, if_neg (by rw [HSL.out]; exact h8)]
        clear h8
        go_wp2_with (at_builtin; refine wpList_append_rf rfl (.tmp 81) (.tmp 85) 84 rfl 129 2 32 _ Pr.cs Try.underlying84 infoProp rfl (by omega) (.slice a (n) c) (runP s v zk.ps).1 (n) HR.out.2.1 G rfl (HR.out.1.frame0 (Frame.alloc _ _ _)) (fun y => y = wo.heap.size) _ 1 1 [(⟨s, v⟩ : Pr)] rfl (rf_one (Blk.new _ _ _) _ rfl) rfl pr_len pr_one ((n) + 1) rfl (by omega) (by omega) ?_; intro a5 cap5 w5 G5 sl5 f5 hG5; have R5 := Lib.hid (RSt.app HR.out sl5 f5 hG5); clear sl5 f5 hG5; have bb5 := BZ.out.frame R5.out.2.2.1 (by simp); have n52 := bb5.at 2 rfl; clear bb5; have bf := BZ.out.frame R5.out.2.2.1 (by simp); have p0 := bf.at 0 rfl; have p1 := bf.at 1 rfl; have p2 := bf.at 2 rfl; have p3 := bf.frozen 2; have bg := bf.set 2 (.slice a5 (n + 1) cap5); have o0 := bg.at 0 rfl; have o1 := bg.at 1 rfl; have o2 := bg.at 2 rfl; clear bf bg; rw [SP.out] at R5)
        have fS : Frame [zb] w5 (w5.setCell ⟨zb, 2, none⟩ (.slice a5 (n + 1) cap5)) := Frame.setCell _ _ _ (by simp)
        have fw : Frame [] w (w5.setCell ⟨zb, 2, none⟩ (.slice a5 (n + 1) cap5)) := (FZ.out.trans1 R5.out.2.2.1).trans fS (fun x hx => by simp at hx; subst hx; right; exact hz3)
        have sS := fS.size
        have hne : ∀ x ∈ G5, x ∉ [zb] := fun x hx hm => by simp at hm; subst hm; have := R5.out.2.2.2 x hx; omega
        have hz4 := FZ.out.size
        refine (rg_change' HZ.out fw (by rw [HM.out.2.2.1]; exact hlen) r hrz ⟨⟨zk.nd.id, zk.nd.la, zk.nd.ln, zk.nd.lc, a5, n + 1, cap5⟩, zk.ls, setP s v zk.ps⟩ ⟨ZL.out.1, HSL.out.symm, ?_, ?_⟩).mono ?_
        · exact (ZL.out.2.frame fw (by simp)).mono (fun b hb => .inl hb)
        · exact (R5.out.1.frame fS hne).rf pr_len (fun x hx => .inr ⟨by have := R5.out.2.2.2 x hx; omega, Nat.lt_of_lt_of_le (R5.out.1.lt x hx) sS⟩)
        rintro e w9 ⟨rfl, hE⟩
        have HE := Lib.hid hE
        clear hE fS fw hne p0 p1 p2 p3 o0 o1 o2
        go_wp2_with fail
        go_ret
        rw [E.out]
        refine ⟨rfl, ?_⟩
        have := HE.out
        rw [List.map_set] at this ⊢
        exact this
end Go.Proofs.Ytolkmapdbilolaa

