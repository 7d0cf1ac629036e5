/- Part of a proof: plain readings of Go functions, their contracts, or plain facts of them. -/
import Derived.Test.YtdgiapeofmlecaaGreatDoorTrgE
namespace Go.Proofs.YtdgiapeofmlecaaGreatDoor
open Go.Den

/-! # The document's own way to let through -/
theorem wantEq (x : PSGroup × PSSeen × Int) : ref07_Want x = lamp_Want x := by
  obtain ⟨g, w, a⟩ := x
  unfold ref07_Want lamp_Want
  simp only [letK, kept_eq]
  by_cases h1 : w.1 = 1
  · by_cases h2 : a = 2 <;> simp [h1, h2, cnd]
  · by_cases h2 : w.1 = 2
    · simp [h2, cnd]
    · by_cases h3 : w.1 = 3
      · simp [h3, cnd]
      · have e1 : (w.1 == 1) = false := by simpa using h1
        have e2 : (w.1 == 2) = false := by simpa using h2
        have e3 : (w.1 == 3) = false := by simpa using h3
        simp only [e1, e2, e3, Bool.false_and]
        rfl

theorem cnt_join {A : Type} {bad : A} {l : List Int} (hl : l.length ≤ maxLen) (K : Int → A) : joinPt K (fun k => iter bad (fun x1 : Int × Int =>
(cnd (decide (x1.2 < (llen l)))
(elimO (idx l x1.2) (.done bad) (fun x2 =>
(cnd (x2 == 4)
(.next ((wr .i64 (x1.1 + 1)), (wr .i64 (x1.2 + 1))))
(.next (x1.1, (wr .i64 (x1.2 + 1)))))))
(.done (k x1.1)))) lots (0, 0)) = K (cnt4 l) := by
  rw [joinPt_app]
  have hm : llen l ≤ 9223372036854775807 := maxLen_i64 hl
  refine iter_up (fun z : Int × Int => z.2) (llen l) (fun z => z.1 = cnt4 (l.take z.2.toNat)) (fun r => r = K (cnt4 l)) (by omega) (by simp) (llen_nonneg l) rfl (fun z hI i0 i1 => ?_) (fun z hI hz => ?_)
  · obtain ⟨n, i⟩ := z
    simp only at hI i0 i1
    obtain ⟨a, ha, _⟩ := idx_get i0 i1
    have ht : cnt4 (l.take (i + 1).toNat) = cnt4 (l.take i.toNat) + if a = 4 then 1 else 0 := by
      have h1 : l[i.toNat]? = some a := by rw [← idx_nat i0]; exact ha
      rw [show (i + 1).toNat = i.toNat + 1 by omega, List.take_add_one, h1]
      unfold cnt4
      rw [List.filter_append, List.length_append]
      by_cases c : a = 4 <;> simp [c]
    have hle : cnt4 (l.take i.toNat) ≤ i := by
      unfold cnt4
      have := List.length_filter_le (fun a => a == 4) (l.take i.toNat)
      have := List.length_take_le i.toNat l
      omega
    have h0 : 0 ≤ cnt4 (l.take i.toNat) := by unfold cnt4; omega
    try simp only
    rw [cnd_pos _ _ (decide_eq_true i1), elimO_eq _ _ ha, wr_i64 (i + 1) (by omega) (by omega), hI, wr_i64 (cnt4 (l.take i.toNat) + 1) (by omega) (by omega)]
    by_cases c : a = 4
    · rw [cnd_pos _ _ (by simpa using c)]
      exact ⟨rfl, by (try simp only); rw [ht, if_pos c]⟩
    · rw [cnd_neg _ _ (by simpa using c)]
      exact ⟨rfl, by (try simp only); rw [ht, if_neg c]; omega⟩
  · obtain ⟨n, i⟩ := z
    simp only at hI hz
    subst hz
    try simp only
    rw [cnd_neg _ _ (decide_eq_false (by omega))]
    show K n = _
    rw [hI, List.take_of_length_le (by unfold llen; omega)]

/-- a list that is grown to another one -/
theorem grow_loop {A : Type} {bad : A} {B : List Int} {F : List Int × Int → Step (List Int × Int) A} (P : A → Prop) (n : Int) (hB : llen B = n) (hn : n ≤ 100000)
    (hF : ∀ out i y, 0 ≤ i → i < n → llen out = i → idx B i = some y → F (out, i) = .next (out ++ [y], wr .i64 (i + 1))) (hK : ∃ r, F (B, n) = .done r ∧ P r) : P (iter bad F lots ([], 0)) := by
  have hn0 := llen_nonneg B
  refine iter_up (fun z : List Int × Int => z.2) n (fun z => llen z.1 = z.2 ∧ ∀ j, 0 ≤ j → j < z.2 → idx z.1 j = idx B j) P (by omega) (by simp) (by simp only; omega) ⟨rfl, fun j j0 j1 => absurd j1 (by simp only; omega)⟩ (fun z hI i0 i1 => ?_) (fun z hI hz => ?_)
  · obtain ⟨out, i⟩ := z
    obtain ⟨hlen, hj⟩ := hI
    simp only at i0 i1 hlen hj
    obtain ⟨y, hy, _⟩ := idx_get (l := B) i0 (by omega)
    rw [hF out i y i0 i1 hlen hy, wr_i64 (i + 1) (by omega) (by omega)]
    refine ⟨rfl, by (try simp only); rw [llen_snoc]; omega, fun j j0 j1 => ?_⟩
    simp only at j1 ⊢
    by_cases e : j = i
    · subst e
      rw [hy, ← hlen, idx_snoc]
    · rw [idx_append j0, if_pos (by omega)]
      exact hj j j0 (by omega)
  · obtain ⟨out, i⟩ := z
    obtain ⟨hlen, hj⟩ := hI
    simp only at hz hlen hj
    subst hz
    have : out = B := idx_ext (by rw [hlen, hB]) fun j j0 j1 => hj j j0 (by omega)
    rw [this]
    obtain ⟨r, hr, hp⟩ := hK
    rw [hr]; exact hp

theorem let_e {s : PSSite} {now : PSSafe} {asks : List Int} (h : SOK s) (hw : llen now.1 = llen s.2.1) (hl : llen asks = llen s.2.1) : ref09_Let_t (s, (now, asks)) = some (admitV s now asks) := by
  have n1 := h.n1
  have n2 := h.n2
  have hlm : asks.length ≤ maxLen := by unfold llen at hl n2; unfold maxLen; omega
  unfold ref09_Let_t admitV
  refine (cnt_join hlm _).trans ?_
  try simp only
  rw [cnt4_all]
  by_cases c1 : flashB asks = true
  · rw [cnd_pos _ _ c1, if_pos c1, cnd_pos _ _ (by rw [Bool.true_and]; exact room_le (by omega))]
    rfl
  rw [cnd_neg _ _ (Bool.eq_false_iff.2 c1), if_neg c1, joinPt_app]
  by_cases c2 : now.2.2 = true ∨ 0 < now.2.1
  · have hst : (now.2.2 || decide (0 < now.2.1)) = true := by simpa using c2
    simp only [hst, Bool.not_true, Bool.and_false]
    rw [if_pos c2]
    refine grow_loop (B := lrep (llen asks) 1) (fun r => r = some _) (llen asks) (llen_lrep (by omega) _) (by omega) (fun out i y i0 i1 ho hy => ?_) ⟨_, cnd_neg _ _ (decide_eq_false (by simp only; omega)), ?_⟩
    · have : y = 1 := by rw [idx_lrep i0 i1] at hy; exact (Option.some.inj hy).symm
      subst this
      rw [cnd_pos _ _ (decide_eq_true i1), joinPt_app, cnd_neg _ _ rfl]
      exact cnd_pos _ _ (room_snoc2 (l := out) (by omega))
    · exact iter_done (cnd_neg _ _ rfl)
  · have hst : (now.2.2 || decide (0 < now.2.1)) = false := by simpa using c2
    simp only [hst, Bool.not_false, Bool.and_true]
    rw [if_neg c2]
    have hbl := base_len (gs := s.2.1) (ws := now.1) (asks := asks) hw hl
    refine grow_loop (B := baseV s.2.1 now.1 asks) (fun r => r = some _) (llen asks) (by rw [hbl, hl]) (by omega) (fun out i y i0 i1 ho hy => ?_) ⟨_, cnd_neg _ _ (decide_eq_false (by simp only; omega)), ?_⟩
    · obtain ⟨w, hw', _⟩ := idx_get (l := now.1) i0 (by omega)
      obtain ⟨g, hg, _⟩ := idx_get (l := s.2.1) i0 (by omega)
      obtain ⟨a, ha, _⟩ := idx_get (l := asks) i0 i1
      rw [base_idx hg hw' ha] at hy
      have hy := (Option.some.inj hy).symm
      rw [cnd_pos _ _ (decide_eq_true i1), joinPt_app, cnd_pos _ _ rfl, elimO_eq _ _ hw']
      by_cases c : w.1 = 1
      · rw [cnd_neg _ _ (by simp [c]), hy, bw, if_pos c]
        exact cnd_pos _ _ (room_snoc2 (l := out) (by omega))
      · rw [cnd_pos _ _ (by simpa using c), elimO_eq _ _ hg, elimO_eq _ _ hw', elimO_eq _ _ ha, letK_app, hy, bw, if_neg c, wantEq]
        exact cnd_pos _ _ (room_snoc2 (l := out) (by omega))
    · refine pass_loop (s := s) (ws := now.1) (asks := asks) (fun r => r = some _) (by rw [hbl, hl]) (by omega) (fun i out i0 i1 hlo => ?_) ⟨_, cnd_neg _ _ (decide_eq_false (by simp only; omega)), rfl⟩
      obtain ⟨w, hw', _⟩ := idx_get (l := now.1) i0 (by omega)
      obtain ⟨a, ha, _⟩ := idx_get (l := asks) i0 i1
      obtain ⟨o, ho, _⟩ := idx_get (l := out) i0 (by omega)
      try simp only
      rw [cnd_pos _ _ (decide_eq_true i1), elimO_eq _ _ hw', wr_i64 (i + 1) (by omega) (by omega)]
      have ew : el now.1 i = w := el_of hw'
      have ea : el asks i = a := el_of ha
      by_cases d1 : w.1 = 1
      · rw [cnd_neg _ _ (by simp [d1]), elimO_eq _ _ ha]
        by_cases d2 : a = 2
        · rw [cnd_neg _ _ (by simp [d2])]
          have hin : ∀ R : Step (Int × List Int) (Option (List Int)), (Blk s now.1 out i → R = .next (i + 1, out)) → (¬ Blk s now.1 out i → R = .next (i + 1, lset out i 2)) → (Turns s now.1 asks out i → R = .next (i + 1, lset out i 2)) ∧ (¬ Turns s now.1 asks out i → R = .next (i + 1, out)) := fun R h1 h2 => ⟨fun ht => h2 ht.2.2, fun hnt => h1 (Classical.byContradiction fun hb => hnt ⟨by rw [ew]; exact d1, by rw [ea]; exact d2, hb⟩)⟩
          refine iter_up (fun z : Bool × Int × List Int => z.2.1) (llen asks) (fun z => z.2.2 = out ∧ (z.1 = true ↔ ∀ k, 0 ≤ k → k < z.2.1 → ¬ (apartB s i k = true ∧ (el out k ≠ 1 ∨ (el now.1 k).2.2 < betw s k i)))) (fun (R : Step (Int × List Int) (Option (List Int))) => (Turns s now.1 asks out i → R = .next (i + 1, lset out i 2)) ∧ (¬ Turns s now.1 asks out i → R = .next (i + 1, out))) (by omega) (by simp) (llen_nonneg _) ⟨rfl, fun _ k k0 k1 => absurd k1 (by simp only; omega), fun _ => rfl⟩ (fun z hI k0 k1 => ?_) (fun z hI hz => ?_)
          · obtain ⟨b, k, o'⟩ := z
            obtain ⟨hoo, hno⟩ := hI
            simp only at hoo hno k0 k1
            subst hoo
            obtain ⟨v, hv, _⟩ := idx_get (l := now.1) k0 (by omega)
            obtain ⟨ok, hok, _⟩ := idx_get (l := o') k0 (by omega)
            try simp only
            rw [cnd_pos _ _ (decide_eq_true k1), elimO_eq _ _ (refApart8_e h i0 (by omega) k0 (by omega)), wr_i64 (k + 1) (by omega) (by omega)]
            have next : ¬ (apartB s i k = true ∧ (el o' k ≠ 1 ∨ (el now.1 k).2.2 < betw s k i)) → UpRound (fun z : Bool × Int × List Int => z.2.1) (fun z => z.2.2 = o' ∧ (z.1 = true ↔ ∀ k, 0 ≤ k → k < z.2.1 → ¬ (apartB s i k = true ∧ (el o' k ≠ 1 ∨ (el now.1 k).2.2 < betw s k i)))) (fun (R : Step (Int × List Int) (Option (List Int))) => (Turns s now.1 asks o' i → R = .next (i + 1, lset o' i 2)) ∧ (¬ Turns s now.1 asks o' i → R = .next (i + 1, o'))) k (.next (b, (k + 1, o')) : Step (Bool × Int × List Int) (Step (Int × List Int) (Option (List Int)))) := fun hn => ⟨rfl, rfl, fun hb j j0 j1 => by
              simp only at j1
              by_cases e : j = k
              · rw [e]; exact hn
              · exact hno.1 hb j j0 (by omega), fun hh => hno.2 fun j j0 j1 => hh j j0 (by simp only; omega)⟩
            have stop : apartB s i k = true ∧ (el o' k ≠ 1 ∨ (el now.1 k).2.2 < betw s k i) → UpRound (fun z : Bool × Int × List Int => z.2.1) (fun z => z.2.2 = o' ∧ (z.1 = true ↔ ∀ k, 0 ≤ k → k < z.2.1 → ¬ (apartB s i k = true ∧ (el o' k ≠ 1 ∨ (el now.1 k).2.2 < betw s k i)))) (fun (R : Step (Int × List Int) (Option (List Int))) => (Turns s now.1 asks o' i → R = .next (i + 1, lset o' i 2)) ∧ (¬ Turns s now.1 asks o' i → R = .next (i + 1, o'))) k (.next (false, (k + 1, o')) : Step (Bool × Int × List Int) (Step (Int × List Int) (Option (List Int)))) := fun hb => ⟨rfl, rfl, fun h => (by cases h), fun hh => absurd hb (hh k k0 (by simp only; omega))⟩
            cases hab : apartB s i k with
            | false => rw [cnd_neg _ _ rfl]; exact next (fun hh => by rw [hab] at hh; cases hh.1)
            | true =>
              rw [cnd_pos _ _ rfl, elimO_eq _ _ hok, elimO_eq _ _ hok]
              by_cases d3 : ok = 1
              · rw [cnd_neg _ _ (by simp [d3]), elimO_eq _ _ hv, elimO_eq _ _ (refBetween8_e h k0 (by omega) i0 (by omega))]
                by_cases d4 : v.2.2 < betw s k i
                · rw [cnd_pos _ _ (decide_eq_true d4)]
                  exact stop ⟨hab, .inr (by rw [el_of hv]; exact d4)⟩
                · rw [cnd_neg _ _ (decide_eq_false d4)]
                  exact next fun hh => hh.2.elim (fun h => h (by rw [el_of hok]; exact d3)) (fun h => d4 (by rw [el_of hv] at h; exact h))
              · rw [cnd_pos _ _ (by simpa using d3)]
                exact stop ⟨hab, .inl (by rw [el_of hok]; exact d3)⟩
          · obtain ⟨b, k, o'⟩ := z
            obtain ⟨hoo, hno⟩ := hI
            simp only at hoo hno hz
            subst hoo
            try simp only
            rw [cnd_neg _ _ (decide_eq_false (by omega))]
            cases hb : b with
            | true =>
              rw [cnd_pos _ _ rfl, elimO_eq _ _ ho, elimO_eq _ _ ho]
              exact hin _ (fun ⟨k', q0, q1, q2⟩ => absurd q2 (hno.1 hb k' q0 (by omega))) (fun _ => rfl)
            | false =>
              rw [cnd_neg _ _ rfl]
              refine hin _ (fun _ => rfl) (fun hnb => ?_)
              have := hno.2 fun k' q0 q1 q2 => hnb ⟨k', q0, by omega, q2⟩
              rw [hb] at this; cases this
        · rw [cnd_pos _ _ (by simpa using d2)]
          exact ⟨fun ht => absurd (by rw [← ea]; exact ht.2.1) d2, fun _ => rfl⟩
      · rw [cnd_pos _ _ (by simpa using d1)]
        exact ⟨fun ht => absurd (by rw [← ew]; exact ht.1) d1, fun _ => rfl⟩

end Go.Proofs.YtdgiapeofmlecaaGreatDoor
