/- Part of a proof: plain readings of Go functions, their contracts, or plain facts of them. -/
import Derived.Test.YtdgiapeofmlecaaDoorGatI
namespace Go.Proofs.YtdgiapeofmlecaaDoor
open Go.Den

/-! # What has no fault is let through as it is -/
theorem faults_none {s : PSSite} {now : PSSafe} {l : List Int} (h : faultV s now l = 0) (hfl : flashB l = false) : (now.2.2 = true ∨ 0 < now.2.1 → ∀ a ∈ l, a = 1) ∧ (now.2.2 = false → mayL s.2.1 now.1 l = 0) ∧ ¬ MeetP s l ∧ ¬ CloseP s now.1 l := by
  unfold faultV at h
  rw [if_neg (show ¬ llen l ≠ llen s.2.1 by rw [fault_len h]; simp), if_neg (by rw [hfl]; simp)] at h
  by_cases c1 : 4 ∈ l
  · rw [if_pos c1] at h; cases h
  rw [if_neg c1] at h
  by_cases c2 : (now.2.2 = true ∨ 0 < now.2.1) ∧ ∃ a ∈ l, a ≠ 1
  · rw [if_pos c2] at h; cases h
  rw [if_neg c2] at h
  by_cases c3 : now.2.2 = false ∧ mayL s.2.1 now.1 l ≠ 0
  · rw [if_pos c3] at h; exact absurd h c3.2
  rw [if_neg c3] at h
  by_cases c4 : MeetP s l
  · rw [if_pos c4] at h; cases h
  rw [if_neg c4] at h
  by_cases c5 : CloseP s now.1 l
  · rw [if_pos c5] at h; cases h
  exact ⟨fun hh a ha => Classical.byContradiction fun hne => c2 ⟨hh, a, ha, hne⟩, fun hh => Classical.byContradiction fun hne => c3 ⟨hh, hne⟩, c4, c5⟩

theorem mayL_at0 : ∀ {gs : List PSGroup} {ws : List PSSeen} {l : List Int}, mayL gs ws l = 0 → ∀ (i : Nat) g w a, gs[i]? = some g → ws[i]? = some w → l[i]? = some a → lamp_May (g, (w, a)) = 0
  | [], _, _, _, i, g, w, a, h, _, _ => by simp at h
  | _ :: _, [], _, _, i, g, w, a, _, h, _ => by simp at h
  | _ :: _, _ :: _, [], _, i, g, w, a, _, _, h => by simp at h
  | g0 :: gs, w0 :: ws, a0 :: as, hm, i, g, w, a, h1, h2, h3 => by
    rw [mayL] at hm
    by_cases c : lamp_May (g0, (w0, a0)) ≠ 0
    · rw [if_pos c] at hm; exact absurd hm c
    · rw [if_neg c] at hm
      match i with
      | 0 =>
        simp only [List.getElem?_cons_zero, Option.some.injEq] at h1 h2 h3
        subst h1 h2 h3
        exact Decidable.not_not.1 c
      | i + 1 => exact mayL_at0 hm i g w a (by simpa using h1) (by simpa using h2) (by simpa using h3)

theorem admit_keeps {s : PSSite} {now : PSSafe} {asks : List Int} (h : SOK s) (hG : GoesP s now) (hl : llen asks = llen s.2.1) (hf : faultV s now asks = 0) : admitV s now asks = asks := by
  have n1 := h.n1
  have hw := hG.may.st.n
  unfold admitV
  by_cases c1 : flashB asks = true
  · rw [if_pos c1]
  rw [if_neg c1]
  obtain ⟨f1, f2, f3, f4⟩ := faults_none hf (Bool.eq_false_iff.2 c1)
  by_cases c2 : now.2.2 = true ∨ 0 < now.2.1
  · rw [if_pos c2]
    refine idx_ext (llen_lrep (by omega) _) fun j j0 j1 => ?_
    rw [llen_lrep (by omega)] at j1
    have := idx_el j0 j1
    rw [idx_lrep j0 j1, this, f1 c2 _ (idx_some_iff this).2.2]
  rw [if_neg c2]
  have hnf : now.2.2 = false := Bool.eq_false_iff.2 fun e => c2 (.inl e)
  have hbl := base_len (gs := s.2.1) (ws := now.1) (asks := asks) hw hl
  have hmay : ∀ j, 0 ≤ j → j < llen s.2.1 → lamp_May (el s.2.1 j, (el now.1 j, el asks j)) = 0 := fun j j0 j1 => by
    have r1 := idx_el (l := s.2.1) j0 j1
    have r2 := idx_el (l := now.1) j0 (by omega)
    have r3 := idx_el (l := asks) j0 (by omega)
    rw [idx_nat j0] at r1 r2 r3
    exact mayL_at0 (f2 hnf) j.toNat _ _ _ r1 r2 r3
  have hbase : ∀ j, 0 ≤ j → j < llen s.2.1 → el (baseV s.2.1 now.1 asks) j = if (el now.1 j).1 = 1 then 1 else el asks j := fun j j0 j1 => by
    rw [el_of (base_idx (idx_el j0 j1) (idx_el j0 (by omega)) (idx_el j0 (by omega))), bw]
    by_cases c : (el now.1 j).1 = 1
    · rw [if_pos c, if_pos c]
    · rw [if_neg c, if_neg c, want_same c (hmay j j0 j1)]
  have key := pass_ind (s := s) (ws := now.1) (asks := asks) (n := llen s.2.1) (fun i out => llen out = llen s.2.1 ∧ ∀ j, 0 ≤ j → j < llen s.2.1 → el out j = if (el now.1 j).1 = 1 ∧ i ≤ j then 1 else el asks j) (fun i out i0 i1 hI => ?_) (llen asks).toNat 0 (baseV s.2.1 now.1 asks) (by omega) (by omega) ⟨hbl, fun j j0 j1 => by
    rw [hbase j j0 j1]
    by_cases c : (el now.1 j).1 = 1
    · rw [if_pos c, if_pos ⟨c, j0⟩]
    · rw [if_neg c, if_neg (fun hh => c hh.1)]⟩
  · refine idx_ext (by rw [key.1, hl]) fun j j0 j1 => ?_
    rw [key.1] at j1
    rw [idx_el j0 (by rw [key.1]; exact j1), idx_el j0 (by rw [hl]; exact j1), key.2 j j0 j1, if_neg (by omega)]
  · obtain ⟨hlen, hv⟩ := hI
    have step : ∀ j, 0 ≤ j → j < llen s.2.1 → j ≠ i → el out j = if (el now.1 j).1 = 1 ∧ i + 1 ≤ j then 1 else el asks j := fun j j0 j1 hj => by
      rw [hv j j0 j1]
      by_cases c : (el now.1 j).1 = 1 ∧ i ≤ j
      · rw [if_pos c, if_pos ⟨c.1, by omega⟩]
      · rw [if_neg c, if_neg (fun hh => c ⟨hh.1, by omega⟩)]
    refine ⟨fun ht => ⟨by rw [llen_lset]; exact hlen, fun j j0 j1 => ?_⟩, fun hn => ⟨hlen, fun j j0 j1 => ?_⟩⟩
    · rw [el_lset i0 (by omega)]
      by_cases e : j = i
      · subst e
        rw [if_pos rfl, if_neg (by omega), ht.2.1]
      · rw [if_neg e]; exact step j j0 j1 e
    · by_cases e : j = i
      · subst e
        rw [if_neg (by omega), hv j j0 j1]
        by_cases c : (el now.1 j).1 = 1
        · rw [if_pos ⟨c, Int.le_refl _⟩]
          obtain ⟨_, q2, q3, _⟩ := may_says (hmay j j0 j1)
          by_cases c3 : el asks j = 1
          · exact c3.symm
          · exfalso
            have h2 : el asks j = 2 := by
              by_cases c4 : el asks j = (el now.1 j).1
              · omega
              · have := q3 c4; omega
            refine hn ⟨c, h2, fun ⟨k, k0, k1, hab, hor⟩ => ?_⟩
            have hk1 : k < llen s.2.1 := by omega
            obtain ⟨p1, p2, _⟩ := h.pair j k j0 j1 k0 hk1
            rcases hor with ho | ho
            · rw [hv k k0 hk1] at ho
              have : el asks k ≠ 1 := by
                intro e
                apply ho
                split
                · rfl
                · exact e
              exact f3 (meet_of h hl j0 j1 k0 hk1 hab (by omega) this)
            · exact f4 ⟨j, k, _, _, idx_el j0 (by omega), by rw [idx_el j0 (by omega), h2], by omega, idx_el k0 k1, by rw [← p1]; exact hab, ho⟩
        · rw [if_neg (fun hh => c hh.1)]
      · exact step j j0 j1 e

/-! ## runs -/
noncomputable def runV (s : PSSite) : PSSafe → List (List Int) → List (List Int)
  | _, [] => []
  | now, l :: r => admitV s now l :: runV s (behindV s now (admitV s now l)) r
theorem run_len (s : PSSite) : ∀ (l : List (List Int)) (now : PSSafe), llen (runV s now l) = llen l
  | [], _ => rfl
  | a :: l, now => by rw [runV, llen_cons, llen_cons, run_len s l]
theorem run_mem {s : PSSite} (h : SOK s) : ∀ (l : List (List Int)) (now : PSSafe), GoesP s now → (∀ a ∈ l, llen a = llen s.2.1) → ∀ b ∈ runV s now l, llen b = llen s.2.1
  | [], _, _, _, b, hb => by cases hb
  | a :: l, now, hG, hl, b, hb => by
    rw [runV] at hb
    have ha := hl a (List.mem_cons_self ..)
    rcases List.mem_cons.1 hb with e | hb
    · rw [e]; exact llen_admit hG.may.st.n ha
    · exact run_mem h l _ (admit_free h hG ha).2 (fun c hc => hl c (List.mem_cons_of_mem _ hc)) b hb
theorem run_chk {s : PSSite} (h : SOK s) : ∀ (l : List (List Int)) (now : PSSafe) (i : Int), GoesP s now → (∀ a ∈ l, llen a = llen s.2.1) → chk s now i (runV s now l) = (-1, 0)
  | [], _, _, _, _ => by rw [runV, chk]
  | a :: l, now, i, hG, hl => by
    have hf := admit_free h hG (hl a (List.mem_cons_self ..))
    rw [runV, chk, if_neg (by simpa using hf.1)]
    exact run_chk h l _ _ hf.2 fun c hc => hl c (List.mem_cons_of_mem _ hc)

theorem all_mem' {n : Int} {v a : PSSeen} (h : a ∈ lrep n v) : a = v := (List.mem_replicate.1 h).2

theorem goes_first {s : PSSite} (h : SOK s) : GoesP s (firstV s) := by
  have n1 := h.n1
  refine ⟨⟨first_ok h, .inr fun ⟨a, b, x, y, _, hx, _, hne, _⟩ => hne ?_⟩, fun w hw => ?_⟩
  · rw [idx_map] at hx
    cases hw : idx (firstV s).1 a with
    | none => rw [hw] at hx; cases hx
    | some w =>
      rw [hw] at hx
      have := all_mem' (idx_some_iff hw).2.2
      rw [this] at hx
      cases hx; rfl
  · have := all_mem' hw
    rw [this]
    unfold StandOK
    rw [if_neg (by simp [firstV])]
    exact ⟨by decide, fun _ => rfl⟩

open Classical in
noncomputable def runR (e : Int) (s : PSSite) (asks : List (List Int)) : List (List Int) × Int :=
  if e ≠ 0 then ([], e) else if 4096 < llen asks then ([], 4) else if ∃ l ∈ asks, llen l ≠ llen s.2.1 then ([], 90) else (runV s (firstV s) asks, 0)

theorem run_loop {s : PSSite} {asks : List (List Int)} {A : Type} {bad : A} {F : List (List Int) × Int × PSSafe → Step (List (List Int) × Int × PSSafe) A} (R : List (List Int) → A) (h : SOK s) (hn : llen asks ≤ 4096) (hl : ∀ l ∈ asks, llen l = llen s.2.1)
    (hF : ∀ out i now l, 0 ≤ i → i < llen asks → llen out = i → GoesP s now → idx asks i = some l → llen l = llen s.2.1 → F (out, (i, now)) = .next (out ++ [admitV s now l], (wr .i64 (i + 1), behindV s now (admitV s now l)))) (hFe : ∀ out now, F (out, (llen asks, now)) = .done (R out)) : iter bad F lots ([], (0, firstV s)) = R (runV s (firstV s) asks) := by
  refine iter_up (fun z : List (List Int) × Int × PSSafe => z.2.1) (llen asks) (fun z => llen z.1 = z.2.1 ∧ GoesP s z.2.2 ∧ runV s (firstV s) asks = z.1 ++ runV s z.2.2 (asks.drop z.2.1.toNat)) (fun r => r = R (runV s (firstV s) asks)) (by omega) (by simp) (llen_nonneg asks) ⟨rfl, goes_first h, rfl⟩ (fun z hI i0 i1 => ?_) (fun z hI hz => ?_)
  · obtain ⟨out, i, now⟩ := z
    obtain ⟨ho, hG, hr⟩ := hI
    simp only at i0 i1 ho hG hr
    obtain ⟨l, hx, hxm⟩ := idx_get i0 i1
    rw [hF out i now l i0 i1 ho hG hx (hl l hxm), wr_i64 (i + 1) (by omega) (by omega)]
    rw [drop_idx hx, runV] at hr
    refine ⟨rfl, by (try simp only); rw [llen_snoc]; omega, (admit_free h hG (hl l hxm)).2, ?_⟩
    simp only
    rw [hr, List.append_assoc]; rfl
  · obtain ⟨out, i, now⟩ := z
    obtain ⟨ho, hG, hr⟩ := hI
    simp only at hz ho hG hr
    subst hz
    rw [hFe]
    rw [drop_end (Int.le_refl _), runV, List.append_nil] at hr
    show R out = _
    rw [hr]

theorem gRun_e {s : PSSite} {asks : List (List Int)} {e : Int} (hok : e = 0 → SOK s) (hs : site_Check_t s = some e) (hm : asks.length ≤ maxLen) : gate_Run_t (s, asks) = some (runR e s asks) := by
  unfold gate_Run_t runR
  rw [elimO_eq _ _ (safeFirst_e hok hs)]
  by_cases h0 : e = 0
  · subst h0
    have hk := hok rfl
    have n2 := hk.n2
    rw [if_neg (show ¬ ((0 : Int) ≠ 0) by simp), if_neg (show ¬ ((0 : Int) ≠ 0) by simp), cnd_neg _ _ (by rfl)]
    by_cases h1 : 4096 < llen asks
    · rw [cnd_pos _ _ (decide_eq_true h1), if_pos h1]
    rw [cnd_neg _ _ (decide_eq_false h1), if_neg h1]
    have conv : (¬ ∃ l ∈ asks, llen l ≠ llen s.2.1) ↔ ∀ (i : Int) l, idx asks i = some l → llen l = llen s.2.1 := ⟨fun hn i l hl => Classical.byContradiction fun hne => hn ⟨l, (idx_some_iff hl).2.2, hne⟩, fun hh ⟨l, hl, hne⟩ => by obtain ⟨i, hi⟩ := mem_idx hl; exact hne (hh i l hi)⟩
    refine iter_allQ (l := asks) (fun r : Option (List (List Int) × Int) => r = some _) (fun _ l => llen l = llen s.2.1) (some ([], 90)) _ hm (fun i l h0 hi hl => ?_) (fun i hi => by (try simp only); rw [cnd_neg _ _ (decide_eq_false hi)]) (fun hh => ?_) (fun hh => by rw [if_pos (Classical.byContradiction fun hn => hh (conv.1 hn))])
    · try simp only
      rw [cnd_pos _ _ (decide_eq_true hi), elimO_eq _ _ hl]
      by_cases c : llen l = llen s.2.1
      · exact .inl ⟨c, by rw [cnd_neg _ _ (by simpa using c)]⟩
      · exact .inr ⟨c, by rw [cnd_pos _ _ (by simpa using c), cnd_pos _ _ (decide_eq_true h0)]⟩
    · have hne := conv.2 hh
      have hall : ∀ l ∈ asks, llen l = llen s.2.1 := fun l hl => Classical.byContradiction fun hn => hne ⟨l, hl, hn⟩
      rw [if_neg hne, cnd_neg _ _ (by rfl)]
      refine run_loop (fun out => some (out, (0 : Int))) hk (by omega) hall (fun out i now l i0 i1 ho hG hl hll => ?_) (fun out now => cnd_neg _ _ (decide_eq_false (by simp)))
      have hf := admit_free hk hG hll
      have hn := hG.may.st.n
      have hal := llen_admit (s := s) (now := now) hn hll
      have hN := safeNext_e (e := 0) (l := admitV s now l) (fun _ => hk) hs (now := now) (by omega) (by unfold llen at hal n2; unfold maxLen; omega)
      unfold safeNextR at hN
      rw [if_neg (show ¬ ((0 : Int) ≠ 0) by simp), if_neg (show ¬ ¬ MayP s now by simpa using hG.may), if_neg (by simpa using hf.1)] at hN
      try simp only
      rw [cnd_pos _ _ (decide_eq_true i1), elimO_eq _ _ hl, elimO_eq _ _ (admit_e hk hn hll), cnd_pos _ _ (room_snoc2 (l := out) (by omega)), elimO_eq _ _ hN]
  · rw [if_pos h0, if_pos h0, cnd_pos _ _ (by simp [h0])]

theorem refRun_e {s : PSSite} {asks : List (List Int)} {e : Int} (hok : e = 0 → SOK s) (hs : ref05_Check_t s = some e) (hm : asks.length ≤ maxLen) : ref09_Run_t (s, asks) = some (runR e s asks) := by
  unfold ref09_Run_t runR
  rw [elimO_eq _ _ hs]
  by_cases h0 : e = 0
  · subst h0
    have hk := hok rfl
    have n2 := hk.n2
    rw [if_neg (show ¬ ((0 : Int) ≠ 0) by simp), cnd_neg _ _ (by rfl)]
    by_cases h1 : 4096 < llen asks
    · rw [cnd_pos _ _ (decide_eq_true h1), if_pos h1]
    rw [cnd_neg _ _ (decide_eq_false h1), if_neg h1]
    have conv : (¬ ∃ l ∈ asks, llen l ≠ llen s.2.1) ↔ ∀ (i : Int) l, idx asks i = some l → llen l = llen s.2.1 := ⟨fun hn i l hl => Classical.byContradiction fun hne => hn ⟨l, (idx_some_iff hl).2.2, hne⟩, fun hh ⟨l, hl, hne⟩ => by obtain ⟨i, hi⟩ := mem_idx hl; exact hne (hh i l hi)⟩
    refine iter_allQ (l := asks) (fun r : Option (List (List Int) × Int) => r = some _) (fun _ l => llen l = llen s.2.1) (some ([], 90)) _ hm (fun i l h0 hi hl => ?_) (fun i hi => by (try simp only); rw [cnd_neg _ _ (decide_eq_false hi)]) (fun hh => ?_) (fun hh => by rw [if_pos (Classical.byContradiction fun hn => hh (conv.1 hn))])
    · try simp only
      rw [cnd_pos _ _ (decide_eq_true hi), elimO_eq _ _ hl]
      by_cases c : llen l = llen s.2.1
      · exact .inl ⟨c, by rw [cnd_neg _ _ (by simpa using c)]⟩
      · exact .inr ⟨c, by rw [cnd_pos _ _ (by simpa using c)]⟩
    · have hne := conv.2 hh
      have hall : ∀ l ∈ asks, llen l = llen s.2.1 := fun l hl => Classical.byContradiction fun hn => hne ⟨l, hl, hn⟩
      rw [if_neg hne, elimO_eq _ _ (refStart8_e hk)]
      refine run_loop (fun out => some (out, (0 : Int))) hk (by omega) hall (fun out i now l i0 i1 ho hG hl hll => ?_) (fun out now => cnd_neg _ _ (decide_eq_false (by simp)))
      have hn := hG.may.st.n
      try simp only
      rw [cnd_pos _ _ (decide_eq_true i1), elimO_eq _ _ hl, elimO_eq _ _ (let_e hk hn hll), cnd_pos _ _ (room_snoc2 (l := out) (by omega)), elimO_eq _ _ (refBehind8_e hk hG.may.st (llen_admit hn hll))]
  · rw [if_pos h0, cnd_pos _ _ (by simp [h0])]

theorem gateRuns_law (x : PSSite × List (List Int)) (hf : FitsAll [SSite, U8ss] x) : law09_GateRuns_t x = some true := by
  obtain ⟨s, tr⟩ := x
  have hs : SFits s := sfits hf.1
  have hm : tr.length ≤ maxLen := hf.2.1
  unfold law09_GateRuns_t
  obtain ⟨g, hg⟩ := great_s s hs
  rw [elimO_eq _ _ hg, cnd_if]
  split
  · rfl
  obtain ⟨e, h2, h3⟩ := check_s hs
  have h4 : ref05_Check_t s = some e := by rw [refCheck_eq hs]; exact h2
  have hok : e = 0 → SOK s := fun h => sok hs (check_ok h3 h)
  refine iter_allQ (l := tr) (fun r : Option Bool => r = some true) (fun _ l => ¬ 100 < llen l) (some true) _ hm (fun i l h0 hi hl => ?_) (fun i hi => by (try simp only); rw [cnd_neg _ _ (decide_eq_false hi)]) (fun _ => ?_) (fun _ => rfl)
  · try simp only
    rw [cnd_pos _ _ (decide_eq_true hi), elimO_eq _ _ hl]
    by_cases c : 100 < llen l
    · exact .inr ⟨fun hh => hh c, by rw [cnd_pos _ _ (decide_eq_true c)]⟩
    · exact .inl ⟨c, by rw [cnd_neg _ _ (decide_eq_false c)]⟩
  · have hrm : (runR e s tr).1.length ≤ maxLen := by
      unfold runR
      split
      · simp
      split
      · simp
      split
      · simp
      · have := run_len s tr (firstV s)
        unfold llen at this
        simp only; omega
    rw [elimO_eq _ _ (gRun_e hok h2 hm), elimO_eq _ _ (refRun_e hok h4 hm), cnd_neg _ _ (by simp)]
    have hsame : ∀ l : List Int, ref09_Same (l, l) = true := fun l => by unfold ref09_Same; simp
    refine iter_allQ (l := (runR e s tr).1) (fun r : Option Bool => r = some true) (fun _ _ => True) (some false) (some true) hrm (fun i l h0 hi hl => ?_) (fun i hi => by (try simp only); rw [cnd_neg _ _ (decide_eq_false hi)]) (fun _ => rfl) (fun hh => absurd (fun _ _ _ => trivial) hh)
    try simp only
    rw [cnd_pos _ _ (decide_eq_true hi), elimO_eq _ _ hl, elimO_eq _ _ hl, letK_app, hsame, cnd_neg _ _ (by rfl)]
    exact .inl ⟨trivial, rfl⟩

theorem gateTraces_law (x : PSSite × List (List Int)) (hf : FitsAll [SSite, U8ss] x) : law09_GateTraces_t x = some true := by
  obtain ⟨s, tr⟩ := x
  have hs : SFits s := sfits hf.1
  have hm : tr.length ≤ maxLen := hf.2.1
  unfold law09_GateTraces_t
  rw [show law09_alive_t () = some true from rfl, elimO_eq _ _ rfl]
  obtain ⟨g, hg⟩ := great_s s hs
  rw [elimO_eq _ _ hg, cnd_if]
  split
  · rfl
  rename_i hcond
  simp only [Bool.or_eq_true, decide_eq_true_eq, not_or, Int.not_lt, Bool.not_true, Bool.false_eq_true, not_false_eq_true, and_true] at hcond
  obtain ⟨_, h200⟩ := hcond
  obtain ⟨e, h2, h3⟩ := check_s hs
  have hok : e = 0 → SOK s := fun h => sok hs (check_ok h3 h)
  rw [elimO_eq _ _ (gRun_e hok h2 hm)]
  unfold runR
  by_cases h0 : e = 0
  · subst h0
    have hk := hok rfl
    have n2 := hk.n2
    rw [if_neg (show ¬ ((0 : Int) ≠ 0) by simp), if_neg (show ¬ 4096 < llen tr by omega)]
    by_cases c : ∃ l ∈ tr, llen l ≠ llen s.2.1
    · rw [if_pos c]; rfl
    · have hall : ∀ l ∈ tr, llen l = llen s.2.1 := fun l hl => Classical.byContradiction fun hn => c ⟨l, hl, hn⟩
      rw [if_neg c, cnd_neg _ _ (by rfl), elimO_eq _ _ (safeCheck_e hok h2 (fun l hl => by have := run_mem hk tr _ (goes_first hk) hall l hl; unfold llen at this n2; unfold maxLen; omega))]
      unfold safeCheckR
      rw [if_neg (show ¬ ((0 : Int) ≠ 0) by simp), if_neg (by rw [run_len]; omega), run_chk hk tr _ 0 (goes_first hk) hall]
      simp [run_len]
  · rw [if_pos h0, cnd_pos _ _ (by simp [h0])]
    rfl

theorem gateSafe_law (x : PSSite × PSSafe × List Int) (hf : FitsAll [SSite, SSafe, U8s] x) : law09_GateSafe_t x = some true := by
  obtain ⟨s, now, asks⟩ := x
  have hs : SFits s := sfits hf.1
  unfold law09_GateSafe_t
  rw [show law09_alive_t () = some true from rfl, elimO_eq _ _ rfl]
  obtain ⟨g, hg⟩ := great_s s hs
  rw [elimO_eq _ _ hg, cnd_if]
  split
  · rfl
  rename_i hcond
  simp only [Bool.or_eq_true, decide_eq_true_eq, not_or, Int.not_lt, Bool.not_true, Bool.false_eq_true, not_false_eq_true, and_true] at hcond
  obtain ⟨⟨_, hw⟩, hl100⟩ := hcond
  have hw : llen now.1 ≤ 1000 := by omega
  have hlm : asks.length ≤ maxLen := by unfold llen at hl100; unfold maxLen; omega
  obtain ⟨e, h2, h3⟩ := check_s hs
  have hok : e = 0 → SOK s := fun h => sok hs (check_ok h3 h)
  rw [elimO_eq _ _ (gAdmit_e hok h2 hw)]
  unfold admitR
  by_cases h0 : e = 0
  · subst h0
    have hk := hok rfl
    have n2 := hk.n2
    rw [if_neg (show ¬ ((0 : Int) ≠ 0) by simp)]
    by_cases c : GoesP s now
    · rw [if_neg (show ¬ ¬ GoesP s now by simpa using c)]
      by_cases c2 : llen asks = llen s.2.1
      · rw [if_neg (show ¬ llen asks ≠ llen s.2.1 by simpa using c2)]
        have hf := admit_free hk c c2
        have hn := c.may.st.n
        have hal := llen_admit (s := s) (now := now) hn c2
        have hN : ∀ l : List Int, l.length ≤ maxLen → safe_Next_t (s, (now, l)) = some (if faultV s now l ≠ 0 then (now, (faultV s now l, 0)) else (behindV s now l, (0, 0))) := fun l hl => by
          rw [safeNext_e (e := 0) (fun _ => hk) h2 hw hl]
          unfold safeNextR
          rw [if_neg (show ¬ ((0 : Int) ≠ 0) by simp), if_neg (show ¬ ¬ MayP s now by simpa using c.may)]
        have hb := hf.2.may.st.n
        rw [cnd_neg _ _ (by rfl), elimO_eq _ _ (hN (admitV s now asks) (by unfold llen at hal n2; unfold maxLen; omega)), if_neg (by simpa using hf.1), cnd_neg _ _ (by rfl), elimO_eq _ _ (gAdmit_e hok h2 (by simp only; omega)), elimO_eq _ _ (hN _ hlm)]
        unfold admitR
        rw [if_neg (show ¬ ((0 : Int) ≠ 0) by simp)]
        try simp only
        rw [if_neg (show ¬ ¬ GoesP s (behindV s now (admitV s now asks)) by simpa using hf.2), if_neg (show ¬ llen asks ≠ llen s.2.1 by simpa using c2)]
        by_cases c3 : faultV s now asks = 0
        · rw [if_neg (show ¬ faultV s now asks ≠ 0 by simpa using c3)]
          have := admit_keeps hk c c2 c3
          have hsame : law09_same (asks, admitV s now asks) = true := by rw [this]; unfold law09_same; simp
          simp [hsame]
        · rw [if_pos c3]
          simp [c3]
      · rw [if_pos c2]; rfl
    · rw [if_pos c]; rfl
  · rw [if_pos h0, cnd_pos _ _ (by simp [h0])]
    rfl

end Go.Proofs.YtdgiapeofmlecaaDoor
