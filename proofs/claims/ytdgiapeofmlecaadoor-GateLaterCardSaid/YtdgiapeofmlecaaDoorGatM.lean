/- Part of a proof: plain readings of Go functions, their contracts, or plain facts of them. -/
import Derived.Test.YtdgiapeofmlecaaDoorGatK
namespace Go.Proofs.YtdgiapeofmlecaaDoor
open Go.Den

/-! # What is asked behind does not matter -/
theorem ltake_idx {l : List Int} {n j : Int} (j0 : 0 ≤ j) (h : j < n) : idx (ltake l n) j = idx l j := by
  unfold ltake
  rw [idx_nat j0, idx_nat j0, List.getElem?_take, if_pos (by omega)]
theorem llen_ltake {l : List Int} {n : Int} (n0 : 0 ≤ n) (h : n ≤ llen l) : llen (ltake l n) = n := by
  unfold llen ltake at *
  rw [List.length_take]; omega
theorem llen_ldrop {l : List Int} {n : Int} (n0 : 0 ≤ n) (h : n ≤ llen l) : llen (ldrop l n) = llen l - n := by
  unfold llen ldrop at *
  rw [List.length_drop]; omega

/-- the second pass, side by side -/
theorem pass_two {s : PSSite} {ws : List PSSeen} {asks mixed : List Int} {n at_ : Int} (hm : ∀ j, 0 ≤ j → j < at_ → el mixed j = el asks j) : ∀ (k : Nat) (i : Int) (out out' : List Int), 0 ≤ i → i + k = n → llen out = n → llen out' = n → (i < at_ → out' = out) → (∀ j, 0 ≤ j → j < at_ → el out' j = el out j) →
    ∀ j, 0 ≤ j → j < at_ → el (pass s ws mixed k i out') j = el (pass s ws asks k i out) j
  | 0, i, out, out', _, _, _, _, _, he, j, j0, j1 => he j j0 j1
  | k + 1, i, out, out', hi, hn, hl, hl', ho, he, j, j0, j1 => by
    rw [pass, pass]
    by_cases c : i < at_
    · have e := ho c
      subst e
      have hti : Turns s ws mixed out' i ↔ Turns s ws asks out' i := by
        unfold Turns
        rw [hm i hi c]
      by_cases t : Turns s ws asks out' i
      · rw [if_pos t, if_pos (hti.2 t)]
        exact pass_two (n := n) hm k (i + 1) _ _ (by omega) (by omega) (by rw [llen_lset]; exact hl) (by rw [llen_lset]; exact hl) (fun _ => rfl) (fun _ _ _ => rfl) j j0 j1
      · rw [if_neg t, if_neg (fun h => t (hti.1 h))]
        exact pass_two (n := n) hm k (i + 1) _ _ (by omega) (by omega) hl hl (fun _ => rfl) (fun _ _ _ => rfl) j j0 j1
    · have step : ∀ (P : Prop) (d : Decidable P) (o : List Int), llen o = n → llen (@ite _ P d (lset o i 2) o) = n ∧ ∀ j, 0 ≤ j → j < at_ → el (@ite _ P d (lset o i 2) o) j = el o j := fun P d o hlo => by
        by_cases hp : P
        · rw [if_pos hp]
          exact ⟨by rw [llen_lset]; exact hlo, fun j j0 j1 => by rw [el_lset hi (by omega), if_neg (by omega)]⟩
        · rw [if_neg hp]
          exact ⟨hlo, fun _ _ _ => rfl⟩
      have s1 := step (Turns s ws mixed out' i) (Classical.propDecidable _) out' hl'
      have s2 := step (Turns s ws asks out i) (Classical.propDecidable _) out hl
      exact pass_two (n := n) hm k (i + 1) _ _ (by omega) (by omega) s2.1 s1.1 (fun h => absurd h (by omega)) (fun j j0 j1 => by rw [s1.2 j j0 j1, s2.2 j j0 j1, he j j0 j1]) j j0 j1

theorem admit_later {s : PSSite} {now : PSSafe} {asks mixed : List Int} {at_ : Int} (h : SOK s) (hw : llen now.1 = llen s.2.1) (hl : llen asks = llen s.2.1) (hl' : llen mixed = llen s.2.1) (ha : at_ ≤ llen s.2.1) (hm : ∀ j, 0 ≤ j → j < at_ → el mixed j = el asks j) (hon : ∀ j, 0 ≤ j → j < llen s.2.1 → (el now.1 j).1 ≠ 1 → el mixed j = el asks j) (h4 : ∀ j, 0 ≤ j → j < llen s.2.1 → el asks j ≠ 4 ∧ el mixed j ≠ 4) :
    ∀ j, 0 ≤ j → j < at_ → el (admitV s now mixed) j = el (admitV s now asks) j := by
  have n1 := h.n1
  intro j j0 j1
  have f1 : ¬ flashB asks = true := fun hh => (h4 0 (by omega) (by omega)).1 (red_flash0 hh (by omega) (by omega))
  have f2 : ¬ flashB mixed = true := fun hh => (h4 0 (by omega) (by omega)).2 (red_flash0 hh (by omega) (by omega))
  unfold admitV
  rw [if_neg f1, if_neg f2]
  by_cases c : now.2.2 = true ∨ 0 < now.2.1
  · rw [if_pos c, if_pos c, hl, hl']
  · rw [if_neg c, if_neg c]
    have hb : baseV s.2.1 now.1 mixed = baseV s.2.1 now.1 asks := by
      have b1 := base_len (gs := s.2.1) (ws := now.1) (asks := asks) hw hl
      have b2 := base_len (gs := s.2.1) (ws := now.1) (asks := mixed) hw hl'
      refine idx_ext (by rw [b1, b2]) fun i i0 i1 => ?_
      rw [b2] at i1
      rw [base_idx (idx_el i0 i1) (idx_el i0 (by omega)) (idx_el i0 (by omega)), base_idx (idx_el i0 i1) (idx_el i0 (by omega)) (idx_el i0 (by omega)), bw, bw]
      by_cases c1 : (el now.1 i).1 = 1
      · rw [if_pos c1, if_pos c1]
      · rw [if_neg c1, if_neg c1, hon i i0 i1 c1]
    rw [hb, hl, hl']
    have b1 := base_len (gs := s.2.1) (ws := now.1) (asks := asks) hw hl
    exact pass_two (n := llen s.2.1) hm _ 0 _ _ (by omega) (by omega) b1 b1 (fun _ => rfl) (fun _ _ _ => rfl) j j0 j1

theorem gateLater_law (x : PSSite × PSSafe × List Int × List Int × Int) (hf : FitsAll [SSite, SSafe, U8s, U8s, I64] x) : law09_GateLater_t x = some true := by
  obtain ⟨s, now, asks, others, at_⟩ := x
  have hs : SFits s := sfits hf.1
  unfold law09_GateLater_t
  rw [show law09_alive_t () = some true from rfl, elimO_eq _ _ rfl]
  obtain ⟨g, hg⟩ := great_s s hs
  rw [elimO_eq _ _ hg, cnd_if]
  split
  · rfl
  rename_i hcond
  simp only [Bool.or_eq_true, decide_eq_true_eq, not_or, Int.not_lt, Bool.not_true, Bool.false_eq_true, not_false_eq_true, and_true, Bool.not_eq_true', beq_eq_false_iff_ne, ne_eq, Decidable.not_not] at hcond
  obtain ⟨⟨⟨⟨⟨⟨_, hw100⟩, hl100⟩, hlo⟩, a0⟩, a1⟩, hwl⟩ := hcond
  have hw : llen now.1 ≤ 1000 := by omega
  obtain ⟨e, h2, h3⟩ := check_s hs
  have hok : e = 0 → SOK s := fun h => sok hs (check_ok h3 h)
  have ht := llen_ltake (l := asks) a0 a1
  have hd := llen_ldrop (l := others) a0 (by omega)
  have hl0 := llen_nonneg asks
  rw [cnd_pos _ _ (by simp [a0, a1]), cnd_pos _ _ (by rw [Bool.true_and]; exact room_le (by simp only; omega)), cnd_pos _ _ (by simp [a0]; omega), cnd_pos _ _ (by rw [Bool.true_and]; exact room_le (by simp only [List.nil_append]; omega))]
  simp only [List.nil_append]
  have hml : llen (ltake asks at_ ++ ldrop others at_) = llen asks := by rw [llen_append, ht, hd]; omega
  have hm0 : ∀ j, 0 ≤ j → j < at_ → idx (ltake asks at_ ++ ldrop others at_) j = idx asks j := fun j j0 j1 => by
    rw [idx_append j0, if_pos (by omega), ltake_idx j0 j1]
  refine iter_up (fun z : Int × List Int => z.1) (llen asks) (fun z => llen z.2 = llen asks ∧ (∀ j, 0 ≤ j → j < at_ → idx z.2 j = idx asks j) ∧ ∀ j, 0 ≤ j → j < z.1 → ((el now.1 j).1 ≠ 1 → idx z.2 j = idx asks j) ∧ el asks j ≠ 4 ∧ el z.2 j ≠ 4) (fun r => r = some true) (by omega) (by simp) hl0 ⟨hml, hm0, fun j j0 j1 => absurd j1 (by simp only; omega)⟩ (fun z hI i0 i1 => ?_) (fun z hI hz => ?_)
  · obtain ⟨i, out⟩ := z
    obtain ⟨hlen, hat, hj⟩ := hI
    simp only at i0 i1 hlen hat hj
    obtain ⟨w, hw', _⟩ := idx_get (l := now.1) i0 (by omega)
    obtain ⟨a, ha, _⟩ := idx_get (l := asks) i0 i1
    obtain ⟨o, ho, _⟩ := idx_get (l := out) i0 (by omega)
    try simp only
    rw [cnd_pos _ _ (decide_eq_true (by omega)), elimO_eq _ _ hw', wr_i64 (i + 1) (by omega) (by omega)]
    by_cases c : w.1 = 1
    · rw [cnd_neg _ _ (by simp [c]), elimO_eq _ _ ha]
      by_cases c2 : a = 4
      · rw [cnd_pos _ _ (by simpa using c2)]; exact rfl
      · rw [cnd_neg _ _ (by simpa using c2), elimO_eq _ _ ho, elimO_eq _ _ ho]
        by_cases c3 : o = 4
        · rw [cnd_pos _ _ (by simpa using c3)]; exact rfl
        · rw [cnd_neg _ _ (by simpa using c3)]
          refine ⟨rfl, hlen, hat, fun j j0 j1 => ?_⟩
          simp only at j1 ⊢
          by_cases e : j = i
          · subst e
            exact ⟨fun h => absurd (by rw [el_of hw']; exact c) h, by rw [el_of ha]; exact c2, by rw [el_of ho]; exact c3⟩
          · exact hj j j0 (by omega)
    · have hset : ∀ j, idx (lset out i a) j = if j = i then some a else idx out j := fun j => idx_lset i0 (by omega) a j
      have hsi : idx (lset out i a) i = some a := by rw [hset, if_pos rfl]
      rw [cnd_pos _ _ (by simpa using c), elimO_eq _ _ ha, elimO_eq _ _ ho, elimO_eq _ _ ho, elimO_eq _ _ ha]
      by_cases c2 : a = 4
      · rw [cnd_pos _ _ (by simpa using c2)]; exact rfl
      · rw [cnd_neg _ _ (by simpa using c2), elimO_eq _ _ hsi, elimO_eq _ _ hsi, cnd_neg _ _ (by simpa using c2)]
        refine ⟨rfl, by (try simp only); rw [llen_lset]; exact hlen, fun j j0 j1 => ?_, fun j j0 j1 => ?_⟩
        · simp only
          rw [hset]
          split
          · rename_i e; rw [e, ha]
          · exact hat j j0 j1
        · simp only at j1 ⊢
          by_cases e : j = i
          · subst e
            exact ⟨fun _ => by rw [hsi, ha], by rw [el_of ha]; exact c2, by rw [el_of hsi]; exact c2⟩
          · obtain ⟨q1, q2, q3⟩ := hj j j0 (by omega)
            refine ⟨fun h => by rw [hset, if_neg e]; exact q1 h, q2, ?_⟩
            rw [el_lset i0 (by omega), if_neg e]
            exact q3
  · obtain ⟨i, out⟩ := z
    obtain ⟨hlen, hat, hj⟩ := hI
    simp only at hz hlen hat hj
    try simp only
    rw [cnd_neg _ _ (decide_eq_false (by omega)), elimO_eq _ _ (gAdmit_e hok h2 hw), elimO_eq _ _ (gAdmit_e hok h2 hw)]
    have hnz : ∀ (r : List Int × Int) (r' : List Int × Int) (K : Option Bool), r.2 ≠ 0 → r.2 = r'.2 → EndRound (fun r => r = some true) (.done (cnd ((!(r.2 == 0)) || (!(r'.2 == 0))) (some (r.2 == r'.2)) K) : Step (Int × List Int) (Option Bool)) := fun r r' K h1 h2 => by
      rw [cnd_pos _ _ (by simp [h1]), h2]; simp [EndRound]
    unfold admitR
    by_cases h0 : e = 0
    · subst h0
      have hk := hok rfl
      have n2 := hk.n2
      rw [if_neg (show ¬ ((0 : Int) ≠ 0) by simp), if_neg (show ¬ ((0 : Int) ≠ 0) by simp)]
      by_cases c : GoesP s now
      · rw [if_neg (show ¬ ¬ GoesP s now by simpa using c), if_neg (show ¬ ¬ GoesP s now by simpa using c)]
        have hn := c.may.st.n
        rw [if_neg (show ¬ llen asks ≠ llen s.2.1 by simp; omega), if_neg (show ¬ llen out ≠ llen s.2.1 by simp; omega), cnd_neg _ _ (by rfl)]
        have hal := llen_admit (s := s) (now := now) (asks := asks) hn (by omega)
        have hal' := llen_admit (s := s) (now := now) (asks := out) hn (by omega)
        have hlat := admit_later (asks := asks) (mixed := out) (at_ := at_) hk hn (by omega) (by omega) (by omega) (fun j j0 j1 => by unfold el; rw [hat j j0 j1]) (fun j j0 j1 hne => by unfold el; rw [(hj j j0 (by omega)).1 hne]) (fun j j0 j1 => (hj j j0 (by omega)).2)
        refine iter_up (fun x : Int => x) at_ (fun _ => True) (fun r => r = some true) (by omega) (by omega) a0 trivial (fun k _ k0 k1 => ?_) (fun k _ hke => ?_)
        · have k0 : 0 ≤ k := k0
          have k1 : k < at_ := k1
          try simp only
          rw [cnd_pos _ _ (decide_eq_true k1), elimO_eq _ _ (idx_el k0 (by omega)), elimO_eq _ _ (idx_el k0 (by omega)), hlat k k0 k1, cnd_neg _ _ (by simp), wr_i64 (k + 1) (by omega) (by omega)]
          exact ⟨rfl, trivial⟩
        · have hke : k = at_ := hke
          try simp only
          rw [cnd_neg _ _ (decide_eq_false (by omega))]
          exact rfl
      · rw [if_pos c, if_pos c]; exact hnz _ _ _ (by simp) rfl
    · rw [if_pos h0, if_pos h0]; exact hnz _ _ _ (by simpa using h0) rfl

end Go.Proofs.YtdgiapeofmlecaaDoor
