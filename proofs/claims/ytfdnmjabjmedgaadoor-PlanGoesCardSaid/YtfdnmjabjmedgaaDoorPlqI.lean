/- Part of a proof: plain readings of Go functions, their contracts, or plain facts of them. -/
import Derived.Test.YtfdnmjabjmedgaaDoorPlqH
namespace Go.Proofs.YtfdnmjabjmedgaaDoor
open Go.Den

/-! # What is let through has no fault -/
theorem pass_ind {s : PSSite} {ws : List PSSeen} {asks : List Int} {n : Int} (J : Int → List Int → Prop) (hJ : ∀ i out, 0 ≤ i → i < n → J i out → (Turns s ws asks out i → J (i + 1) (lset out i 2)) ∧ (¬ Turns s ws asks out i → J (i + 1) out)) :
    ∀ (k : Nat) (i : Int) (out : List Int), 0 ≤ i → i + k = n → J i out → J n (pass s ws asks k i out)
  | 0, i, out, _, hn, h => by
    have : i = n := by omega
    subst this; exact h
  | k + 1, i, out, hi, hn, h => by
    rw [pass]
    obtain ⟨h1, h2⟩ := hJ i out hi (by omega) h
    by_cases c : Turns s ws asks out i
    · rw [if_pos c]; exact pass_ind J hJ k (i + 1) _ (by omega) (by omega) (h1 c)
    · rw [if_neg c]; exact pass_ind J hJ k (i + 1) _ (by omega) (by omega) (h2 c)

theorem kept_le (n : Int) : 0 ≤ lamp_kept n := (kept_in n).1
theorem may_red {g : PSGroup} {w : PSSeen} {a : Int} (hw : w.1 = 1) (ha : a = 1 ∨ a = 2) : lamp_May (g, (w, a)) = 0 := by
  unfold lamp_May lamp_goes lamp_Follows
  simp only [letK]
  rcases ha with ha | ha <;> simp [hw, ha, cnd]
theorem may_says {g : PSGroup} {w : PSSeen} {a : Int} (h : lamp_May (g, (w, a)) = 0) : (1 ≤ w.1 ∧ w.1 ≤ 3) ∧ (1 ≤ a ∧ a ≤ 3) ∧ (a ≠ w.1 → (w.1 = 1 ∧ a = 2) ∨ (w.1 = 2 ∧ a = 3) ∨ (w.1 = 3 ∧ a = 1)) ∧ (w.1 = 2 → a = 3 → g.2.1 ≤ lamp_kept w.2.1) ∧ (w.1 = 3 → (a = 3 ↔ lamp_kept w.2.1 < g.2.2)) := by
  unfold lamp_May lamp_goes lamp_Follows at h
  simp only [letK] at h
  generalize lamp_kept w.2.1 = n at h ⊢
  by_cases c1 : 1 ≤ w.1 ∧ w.1 ≤ 3
  · rw [cnd_neg _ _ (by simp [c1])] at h
    by_cases c2 : 1 ≤ a ∧ a ≤ 3
    · rw [cnd_neg _ _ (by simp [c2])] at h
      have w3 : w.1 = 1 ∨ w.1 = 2 ∨ w.1 = 3 := by omega
      have a3 : a = 1 ∨ a = 2 ∨ a = 3 := by omega
      refine ⟨c1, c2, ?_⟩
      by_cases d1 : n < g.2.1 <;> by_cases d2 : g.2.2 ≤ n
      all_goals rcases w3 with hw | hw | hw <;> rcases a3 with ha | ha | ha <;> simp [hw, ha, d1, d2, cnd] at h ⊢ <;> omega
    · rw [cnd_pos _ _ (by
        simp only [Bool.not_eq_true', Bool.and_eq_false_iff, decide_eq_false_iff_not]; omega)] at h
      cases h
  · rw [cnd_pos _ _ (by
      simp only [Bool.not_eq_true', Bool.and_eq_false_iff, decide_eq_false_iff_not]; omega)] at h
    cases h

theorem want_in {g : PSGroup} {w : PSSeen} {a : Int} (h1 : w.1 ≠ 1) (h : 1 ≤ w.1 ∧ w.1 ≤ 3) : 1 ≤ lamp_Want (g, (w, a)) ∧ lamp_Want (g, (w, a)) ≤ 3 ∧ (lamp_Want (g, (w, a)) = 2 → w.1 = 2) ∧ lamp_May (g, (w, lamp_Want (g, (w, a)))) = 0 := by
  have w3 : w.1 = 2 ∨ w.1 = 3 := by omega
  unfold lamp_Want lamp_May lamp_goes lamp_Follows
  simp only [letK]
  generalize lamp_kept w.2.1 = n
  by_cases c : n < g.2.1 <;> by_cases c2 : n < g.2.2 <;> by_cases c6 : g.2.2 ≤ n
  all_goals first | (exfalso; omega) | skip
  all_goals cases c3 : (a == 2)
  all_goals rcases w3 with hw | hw <;> simp [hw, c, c2, c6, c3, cnd]
theorem want_same {g : PSGroup} {w : PSSeen} {a : Int} (h1 : w.1 ≠ 1) (h : lamp_May (g, (w, a)) = 0) : lamp_Want (g, (w, a)) = a := by
  obtain ⟨q1, q2, q3, q4, q5⟩ := may_says h
  have w3 : w.1 = 2 ∨ w.1 = 3 := by omega
  unfold lamp_Want
  simp only [letK]
  generalize lamp_kept w.2.1 = n at q4 q5 ⊢
  rcases w3 with hw | hw
  · by_cases c : a = 2
    · simp [hw, c, cnd]
    · have ha : a = 3 := by
        by_cases c2 : a = w.1
        · omega
        · have := q3 c2; omega
      have := q4 hw ha
      have c1 : ¬ n < g.2.1 := by omega
      simp [hw, ha, c1, cnd]
  · have := q5 hw
    by_cases c : a = 3
    · simp [hw, c, this.1 c, cnd]
    · have ha : a = 1 := by
        by_cases c2 : a = w.1
        · omega
        · have := q3 c2; omega
      have c1 : ¬ n < g.2.2 := fun hh => c (this.2 hh)
      simp [hw, ha, c1, cnd]

theorem mayL_zero : ∀ {gs : List PSGroup} {ws : List PSSeen} {l : List Int}, (∀ (i : Nat) g w a, gs[i]? = some g → ws[i]? = some w → l[i]? = some a → lamp_May (g, (w, a)) = 0) → mayL gs ws l = 0
  | [], _, _, _ => by rw [mayL]; intros; simp_all
  | _ :: _, [], _, _ => by rw [mayL]; intros; simp_all
  | _ :: _, _ :: _, [], _ => by rw [mayL]; intros; simp_all
  | g0 :: gs, w0 :: ws, a0 :: as, h => by
    rw [mayL, if_neg (by simpa using h 0 g0 w0 a0 rfl rfl rfl)]
    exact mayL_zero fun i g w a h1 h2 h3 => h (i + 1) g w a (by simpa using h1) (by simpa using h2) (by simpa using h3)

theorem nxt_fst (w : PSSeen) (a : Int) : (nxt w a).1 = a := by
  unfold nxt lamp_Next
  simp only [letK]
  cases (a == w.1) <;> cases (a == 2) <;> rfl

theorem shown_behind {s : PSSite} {now : PSSafe} {l : List Int} (hw : llen now.1 = llen s.2.1) (hl : llen l = llen s.2.1) : (behindV s now l).1.map (·.1) = l := by
  have hz : llen (List.zipWith nxt now.1 l) = llen now.1 := llen_zipWith (by rw [hw, hl])
  refine idx_ext (by show llen (List.map _ (List.zipWith nxt now.1 l)) = _; rw [llen_map, hz, hw, hl]) fun j j0 j1 => ?_
  change j < llen (List.map _ (List.zipWith nxt now.1 l)) at j1
  rw [llen_map, hz] at j1
  obtain ⟨w, hw', _⟩ := idx_get j0 j1
  obtain ⟨a, ha, _⟩ := idx_get (l := l) j0 (by omega)
  show idx (List.map _ (List.zipWith nxt now.1 l)) j = _
  rw [idx_map, idx_zipWith hw' ha, ha]
  exact congrArg some (nxt_fst w a)

theorem flash_ok {s : PSSite} {now : PSSafe} {l : List Int} (hl : llen l = llen s.2.1) (h : flashB l = true) : faultV s now l = 0 := by
  unfold faultV
  rw [if_neg (by simpa using hl), if_pos h]

theorem behind_mem {s : PSSite} {now : PSSafe} {l : List Int} (hw : llen now.1 = llen s.2.1) (hl : llen l = llen s.2.1) {w : PSSeen} (h : w ∈ (behindV s now l).1) : w.1 ∈ l := by
  rw [← shown_behind hw hl]
  exact List.mem_map_of_mem h

theorem all_mem {n v a : Int} (h : a ∈ lrep n v) : a = v := (List.mem_replicate.1 h).2

theorem meet_ends {s : PSSite} (h : SOK s) {l : List Int} (hl : llen l = llen s.2.1) (hm : MeetP s l) : ∃ a b, 0 ≤ a ∧ a < llen s.2.1 ∧ 0 ≤ b ∧ b < llen s.2.1 ∧ apartB s a b = true ∧ el l a ≠ 1 ∧ el l b ≠ 1 := by
  obtain ⟨a, b, x, y, _, hx, hy, h1, h2, h3⟩ := hm
  have ia := idx_some_iff hx
  have ib := idx_some_iff hy
  exact ⟨a, b, ia.1, by omega, ib.1, by omega, h3, by rw [el_of hx]; exact h1, by rw [el_of hy]; exact h2⟩
theorem meet_of {s : PSSite} (h : SOK s) {l : List Int} (hl : llen l = llen s.2.1) {a b : Int} (a0 : 0 ≤ a) (a1 : a < llen s.2.1) (b0 : 0 ≤ b) (b1 : b < llen s.2.1) (hab : apartB s a b = true) (h1 : el l a ≠ 1) (h2 : el l b ≠ 1) : MeetP s l := by
  obtain ⟨p1, p2, _⟩ := h.pair a b a0 a1 b0 b1
  have hne := (p2 hab).1
  have ea := idx_el (l := l) a0 (by omega)
  have eb := idx_el (l := l) b0 (by omega)
  rcases Int.lt_or_gt_of_ne hne with hlt | hlt
  · exact ⟨b, a, _, _, hlt, eb, ea, h2, h1, by rw [← p1]; exact hab⟩
  · exact ⟨a, b, _, _, hlt, ea, eb, h1, h2, hab⟩

theorem red_flash0 {l : List Int} (h : flashB l = true) {g : Int} (g0 : 0 ≤ g) (g1 : g < llen l) : el l g = 4 := by
  unfold flashB at h
  rw [decide_eq_true_eq] at h
  exact h _ (idx_some_iff (idx_el g0 g1)).2.2

/-- what the second pass keeps -/
structure PassInv (s : PSSite) (ws : List PSSeen) (asks : List Int) (i : Int) (out : List Int) : Prop where
  len : llen out = llen s.2.1
  on : ∀ j, 0 ≤ j → j < llen s.2.1 → (el ws j).1 ≠ 1 → el out j = lamp_Want (el s.2.1 j, (el ws j, el asks j))
  off : ∀ j, 0 ≤ j → j < llen s.2.1 → (el ws j).1 = 1 → el out j = 1 ∨ (el out j = 2 ∧ el asks j = 2 ∧ j < i ∧ ∀ k, 0 ≤ k → k < llen s.2.1 → apartB s j k = true → betw s k j ≤ (el ws k).2.2)
  meet : ∀ a b, 0 ≤ a → a < llen s.2.1 → 0 ≤ b → b < llen s.2.1 → apartB s a b = true → el out a = 1 ∨ el out b = 1

theorem passInv {s : PSSite} {now : PSSafe} {asks : List Int} (h : SOK s) (hG : GoesP s now) (hl : llen asks = llen s.2.1) (hf : now.2.2 = false) : PassInv s now.1 asks (llen s.2.1) (pass s now.1 asks (llen asks).toNat 0 (baseV s.2.1 now.1 asks)) := by
  have n1 := h.n1
  have hw := hG.may.st.n
  have hbl := base_len (gs := s.2.1) (ws := now.1) (asks := asks) hw hl
  have hbase : ∀ j, 0 ≤ j → j < llen s.2.1 → el (baseV s.2.1 now.1 asks) j = bw (el s.2.1 j) (el now.1 j) (el asks j) := fun j j0 j1 =>
    el_of (base_idx (idx_el j0 j1) (idx_el j0 (by omega)) (idx_el j0 (by omega)))
  refine pass_ind (n := llen s.2.1) (PassInv s now.1 asks) (fun i out i0 i1 hI => ⟨fun ht => ?_, fun hn => ?_⟩) (llen asks).toNat 0 _ (by omega) (by omega) ?_
  · obtain ⟨t1, t2, t3⟩ := ht
    have hi : i < llen out := by rw [hI.len]; exact i1
    refine ⟨by rw [llen_lset]; exact hI.len, fun j j0 j1 hj => ?_, fun j j0 j1 hj => ?_, fun a b a0 a1 b0 b1 hab => ?_⟩
    · rw [el_lset i0 hi, if_neg (fun e => hj (by rw [e]; exact t1))]
      exact hI.on j j0 j1 hj
    · rw [el_lset i0 hi]
      by_cases e : j = i
      · subst e
        rw [if_pos rfl]
        exact .inr ⟨rfl, t2, by omega, fun k k0 k1 hk => Int.not_lt.1 fun hlt => t3 ⟨k, k0, by omega, hk, .inr hlt⟩⟩
      · rw [if_neg e]
        exact (hI.off j j0 j1 hj).imp_right fun ⟨q1, q2, q3, q4⟩ => ⟨q1, q2, by omega, q4⟩
    · obtain ⟨p1, p2, _⟩ := h.pair a b a0 a1 b0 b1
      have hne := (p2 hab).1
      have free : ∀ k, 0 ≤ k → k < llen s.2.1 → apartB s i k = true → el out k = 1 := fun k k0 k1 hk => Classical.byContradiction fun hne => t3 ⟨k, k0, by omega, hk, .inl hne⟩
      rw [el_lset i0 hi, el_lset i0 hi]
      by_cases ea : a = i
      · subst ea
        right
        rw [if_neg (fun e => hne e.symm)]
        exact free b b0 b1 hab
      · by_cases eb : b = i
        · subst eb
          left
          rw [if_neg ea]
          exact free a a0 a1 (by rw [← p1]; exact hab)
        · rw [if_neg ea, if_neg eb]
          exact hI.meet a b a0 a1 b0 b1 hab
  · exact ⟨hI.len, hI.on, fun j j0 j1 hj => (hI.off j j0 j1 hj).imp_right fun ⟨q1, q2, q3, q4⟩ => ⟨q1, q2, by omega, q4⟩, hI.meet⟩
  · refine ⟨hbl, fun j j0 j1 hj => by rw [hbase j j0 j1, bw, if_neg hj], fun j j0 j1 hj => .inl (by rw [hbase j j0 j1, bw, if_pos hj]), fun a b a0 a1 b0 b1 hab => ?_⟩
    apply Classical.byContradiction
    intro hn
    simp only [not_or] at hn
    rw [hbase a a0 a1, hbase b b0 b1] at hn
    have ha : (el now.1 a).1 ≠ 1 := fun e => hn.1 (by rw [bw, if_pos e])
    have hb : (el now.1 b).1 ≠ 1 := fun e => hn.2 (by rw [bw, if_pos e])
    have hel : ∀ j, 0 ≤ j → j < llen s.2.1 → el (now.1.map (·.1)) j = (el now.1 j).1 := fun j j0 j1 => el_of (by rw [idx_map, idx_el j0 (by omega)]; rfl)
    have hm : MeetP s (now.1.map (·.1)) := meet_of h (by rw [llen_map]; exact hw) a0 a1 b0 b1 hab (by rw [hel a a0 a1]; exact ha) (by rw [hel b b0 b1]; exact hb)
    rcases hG.may.ok with ok | ok
    · have h0 := idx_el (l := now.1) a0 (by omega)
      have hs := hG.all _ (idx_some_iff h0).2.2
      unfold StandOK at hs
      rw [if_neg (by rw [hf]; simp)] at hs
      unfold flashB at ok
      rw [decide_eq_true_eq] at ok
      have := ok _ (List.mem_map_of_mem (f := (·.1)) (idx_some_iff h0).2.2)
      omega
    · exact ok hm

theorem pass_in {s : PSSite} {now : PSSafe} {asks out : List Int} {i : Int} (hG : GoesP s now) (hf : now.2.2 = false) (hI : PassInv s now.1 asks i out) {j : Int} (j0 : 0 ≤ j) (j1 : j < llen s.2.1) : (1 ≤ el out j ∧ el out j ≤ 3) ∧ lamp_May (el s.2.1 j, (el now.1 j, el out j)) = 0 ∧ (el out j = 2 → (el now.1 j).1 ≠ 2 → (el now.1 j).1 = 1) := by
  have hs := hG.all _ (idx_some_iff (idx_el (l := now.1) j0 (by rw [hG.may.st.n]; exact j1))).2.2
  unfold StandOK at hs
  rw [if_neg (by rw [hf]; simp)] at hs
  by_cases c : (el now.1 j).1 = 1
  · rcases hI.off j j0 j1 c with h | ⟨h, _⟩
    · exact ⟨by omega, may_red c (.inl h), fun _ _ => c⟩
    · exact ⟨by omega, may_red c (.inr h), fun _ _ => c⟩
  · obtain ⟨q1, q2, q3, q4⟩ := want_in (g := el s.2.1 j) (a := el asks j) c hs.1
    rw [hI.on j j0 j1 c]
    exact ⟨⟨q1, q2⟩, q4, fun h2 hne => absurd (q3 h2) hne⟩

theorem admit_free {s : PSSite} {now : PSSafe} {asks : List Int} (h : SOK s) (hG : GoesP s now) (hl : llen asks = llen s.2.1) : faultV s now (admitV s now asks) = 0 ∧ GoesP s (behindV s now (admitV s now asks)) := by
  have n1 := h.n1
  have hw := hG.may.st.n
  have hlen := llen_admit (s := s) (now := now) hw hl
  have hst := behind_ok h hG.may.st hlen
  have hsh := shown_behind hw hlen
  unfold admitV at hlen hst hsh ⊢
  by_cases c1 : flashB asks = true
  · rw [if_pos c1] at hlen hst hsh ⊢
    refine ⟨flash_ok hlen c1, ⟨hst, .inl (by rw [hsh]; exact c1)⟩, fun w hw' => ?_⟩
    have := behind_mem hw hlen hw'
    unfold StandOK
    rw [if_pos (show (behindV s now asks).2.2 = true from c1)]
    unfold flashB at c1
    rw [decide_eq_true_eq] at c1
    exact c1 _ this
  · rw [if_neg c1] at hlen hst hsh ⊢
    by_cases c2 : now.2.2 = true ∨ 0 < now.2.1
    · rw [if_pos c2] at hlen hst hsh ⊢
      have hal : ∀ a ∈ lrep (llen asks) (1 : Int), a = 1 := fun a ha => all_mem ha
      have hfl : flashB (lrep (llen asks) (1 : Int)) = false := by
        apply Bool.eq_false_iff.2
        intro hh
        have := red_flash0 hh (g := 0) (by omega) (by rw [hlen]; omega)
        have h1 := idx_lrep (n := llen asks) (j := 0) (by omega) (by omega) (1 : Int)
        rw [el_of h1] at this
        cases this
      have hnm : ¬ MeetP s (lrep (llen asks) (1 : Int)) := fun ⟨a, b, x, y, _, hx, _, hne, _⟩ => hne (hal _ (idx_some_iff hx).2.2)
      refine ⟨?_, ⟨hst, .inr (by rw [hsh]; exact hnm)⟩, fun w hw' => ?_⟩
      · unfold faultV
        rw [if_neg (by simpa using hlen), if_neg (by rw [hfl]; simp), if_neg (fun h4 => by have := hal 4 h4; cases this), if_neg (fun hh => by obtain ⟨_, a, ha, hne⟩ := hh; exact hne (hal a ha)), if_neg (fun hh => ?_), if_neg hnm, if_neg (fun ⟨i, k, w, v, _, h2, _⟩ => by have := hal 2 (idx_some_iff h2).2.2; cases this)]
        refine hh.2 (mayL_zero fun i g w a q1 q2 q3 => ?_)
        have hs := hG.all w (List.mem_of_getElem? q2)
        unfold StandOK at hs
        rw [if_neg (by rw [hh.1]; simp)] at hs
        have hst' : 0 < now.2.1 := c2.elim (fun e => by rw [hh.1] at e; cases e) id
        exact may_red (hs.2 hst') (.inl (hal a (List.mem_of_getElem? q3)))
      · have := hal _ (behind_mem hw hlen hw')
        unfold StandOK
        rw [if_neg (show ¬ (behindV s now (lrep (llen asks) 1)).2.2 = true by show ¬ flashB _ = true; rw [hfl]; simp)]
        exact ⟨by omega, fun _ => this⟩
    · rw [if_neg c2] at hlen hst hsh ⊢
      have hf : now.2.2 = false := Bool.eq_false_iff.2 fun e => c2 (.inl e)
      have hI := passInv (asks := asks) h hG hl hf
      generalize pass s now.1 asks (llen asks).toNat 0 (baseV s.2.1 now.1 asks) = out at hI hlen hst hsh ⊢
      have hin := fun {j : Int} (j0 : 0 ≤ j) (j1 : j < llen s.2.1) => pass_in hG hf hI j0 j1
      have hmem : ∀ a ∈ out, 1 ≤ a ∧ a ≤ 3 := fun a ha => by
        obtain ⟨j, hj⟩ := mem_idx ha
        have := idx_some_iff hj
        have h1 := (hin this.1 (by omega)).1
        rwa [el_of hj] at h1
      have hfl : flashB out = false := by
        apply Bool.eq_false_iff.2
        intro hh
        have := red_flash0 hh (g := 0) (by omega) (by omega)
        have h1 := (hin (j := 0) (by omega) (by omega)).1
        omega
      have hnm : ¬ MeetP s out := fun hm => by
        obtain ⟨a, b, a0, a1, b0, b1, hab, h1, h2⟩ := meet_ends h hlen hm
        rcases hI.meet a b a0 a1 b0 b1 hab with e | e
        · exact h1 e
        · exact h2 e
      refine ⟨?_, ⟨hst, .inr (by rw [hsh]; exact hnm)⟩, fun w hw' => ?_⟩
      · unfold faultV
        rw [if_neg (by simpa using hlen), if_neg (by rw [hfl]; simp), if_neg (fun h4 => by have := hmem 4 h4; omega), if_neg (fun hh => c2 hh.1), if_neg (fun hh => ?_), if_neg hnm, if_neg (fun hcl => ?_)]
        · obtain ⟨i, k, w, v, q1, q2, q3, q4, q5, q6⟩ := hcl
          have ii := idx_some_iff q1
          have ik := idx_some_iff q4
          have e1 : el now.1 i = w := el_of q1
          have e2 : el out i = 2 := el_of q2
          have e3 : el now.1 k = v := el_of q4
          have hr := (hin ii.1 (by omega)).2.2 e2 (by rw [e1]; exact q3)
          rcases hI.off i ii.1 (by omega) hr with e | ⟨_, _, _, hb⟩
          · omega
          · have := hb k ik.1 (by omega) (by rw [(h.pair i k ii.1 (by omega) ik.1 (by omega)).1]; exact q5)
            rw [e3] at this; omega
        · refine hh.2 (mayL_zero fun i g w a q1 q2 q3 => ?_)
          have r1 : idx s.2.1 (i : Int) = some g := by rw [idx_nat (by omega), Int.toNat_natCast]; exact q1
          have r2 : idx now.1 (i : Int) = some w := by rw [idx_nat (by omega), Int.toNat_natCast]; exact q2
          have r3 : idx out (i : Int) = some a := by rw [idx_nat (by omega), Int.toNat_natCast]; exact q3
          have := (hin (j := (i : Int)) (by omega) (idx_some_iff r1).2.1).2.1
          rwa [el_of r1, el_of r2, el_of r3] at this
      · have hm := hmem _ (behind_mem hw hlen hw')
        unfold StandOK
        rw [if_neg (show ¬ (behindV s now out).2.2 = true by show ¬ flashB _ = true; rw [hfl]; simp)]
        refine ⟨hm, fun hpos => ?_⟩
        have : (behindV s now out).2.1 = max 0 (now.2.1 - 1) := by unfold behindV; simp only [hfl, hf]; rfl
        rw [this] at hpos
        exact absurd (show now.2.2 = true ∨ 0 < now.2.1 from .inr (by omega)) c2

theorem all_mem' {n : Int} {v a : PSSeen} (h : a ∈ lrep n v) : a = v := (List.mem_replicate.1 h).2

theorem goes_first {s : PSSite} (h : SOK s) : GoesP s (firstV s) := by
  have n1 := h.n1
  refine ⟨⟨first_ok h, .inr fun ⟨a, b, x, y, _, hx, _, hne, _⟩ => hne ?_⟩, fun w hw => ?_⟩
  · rw [idx_map] at hx
    cases hw : idx (firstV s).1 a with
    | none => rw [hw] at hx; cases hx
    | some w =>
      rw [hw] at hx
      have := all_mem' (idx_some_iff hw).2.2
      rw [this] at hx
      cases hx; rfl
  · have := all_mem' hw
    rw [this]
    unfold StandOK
    rw [if_neg (by simp [firstV])]
    exact ⟨by decide, fun _ => rfl⟩

end Go.Proofs.YtfdnmjabjmedgaaDoor
