/- Part of a proof: plain readings of Go functions, their contracts, or plain facts of them. -/
import Derived.Test.YtlddjfgbepbmdaaDoorSeqX
import Derived.Test.YtlddjfgbepbmdaaDoorSeqR
namespace Go.Proofs.YtlddjfgbepbmdaaDoor
open Go.Den

/-! # The document's sequencer -/
theorem refCalls_e {s : PSSite} {calls k : Int} (hm : llen s.2.2.2.2.1 ≤ 8) (hu : U32ok calls) (k0 : 0 ≤ k) (k1 : k < llen s.2.2.2.2.1) : ref16_Calls_t (s, (calls, k)) = some (callB s calls k) := by
  unfold ref16_Calls_t
  rw [elimO_eq _ _ (idx_el k0 k1)]
  try simp only
  rw [wr_u64i k0 (by omega), andBit hu k0 (by omega)]
  rfl

theorem refGo_loop {s : PSSite} {p calls : Int} {A : Type} {bad : A} {q0 : Int × Int} {F : Int × Int × Int → Step (Int × Int × Int) A} (P : A → Prop) (hm : llen s.2.2.2.2.1 ≤ 8) (hm1 : 1 ≤ llen s.2.2.2.2.1)
    (hF : ∀ i u, 1 ≤ i → i < llen s.2.2.2.2.1 → (callB s calls (roundP s p i) = true ∧ ∃ r, F (i, u) = .done r ∧ ((∀ j, 1 ≤ j → j < i → callB s calls (roundP s p j) = false) → P r)) ∨ (callB s calls (roundP s p i) = false ∧ F (i, u) = .next (i + 1, u)))
    (hK : (∀ j, 1 ≤ j → j < llen s.2.2.2.2.1 → callB s calls (roundP s p j) = false) → ∀ u, ∃ r, F (llen s.2.2.2.2.1, u) = .done r ∧ P r) : P (iter bad F lots (1, q0)) := by
  refine iter_up (fun z : Int × Int × Int => z.1) (llen s.2.2.2.2.1) (fun z => 1 ≤ z.1 ∧ ∀ j, 1 ≤ j → j < z.1 → callB s calls (roundP s p j) = false) P (by omega) (by simp) (by simp only; omega) ⟨by simp, fun j j0 j1 => by simp only at j1; omega⟩ (fun z hI i0 i1 => ?_) (fun z hI hz => ?_)
  · obtain ⟨i, u⟩ := z
    obtain ⟨k0, hj⟩ := hI
    simp only at i0 i1 k0 hj
    rcases hF i u k0 i1 with ⟨hc, r, hr, hP⟩ | ⟨hc, hr⟩
    · rw [hr]; exact hP hj
    · rw [hr]
      refine ⟨rfl, by simp only; omega, fun j j0 j1 => ?_⟩
      simp only at j1
      by_cases e : j = i
      · rw [e]; exact hc
      · exact hj j j0 (by omega)
  · obtain ⟨i, u⟩ := z
    obtain ⟨_, hj⟩ := hI
    simp only at hz hj
    subst hz
    obtain ⟨r, hr, hP⟩ := hK hj u
    rw [hr]; exact hP

theorem refGo_e {s : PSSite} {q : PSSeq} {now : PSSafe} {calls gaps : Int} (hs : SFits s) (hS : SiteOK s) (hq : SeqOK s q) (hw : llen now.1 = llen s.2.1) (hu : U32ok calls) (hg : U32ok gaps) :
    ∃ q', NextIs s q (fullB s now q.1) calls gaps q' ∧ 0 ≤ q'.1 ∧ q'.1 < llen s.2.2.2.2.1 ∧ ref16_Go_t (s, (q, (now, (calls, gaps)))) = some q' := by
  have h := sok hs hS
  have hm1 := hS.shape.p1
  have hm := hS.shape.p2
  obtain ⟨p, t⟩ := q
  obtain ⟨p0, p1, s0, s1⟩ := hq
  simp only at p0 p1 s0 s1
  unfold ref16_Go_t
  simp only
  rw [elimO_eq _ _ (refWhole_e hs h hw p0 p1)]
  cases hf : fullB s now p with
  | false =>
    rw [cnd_pos _ _ (by rfl)]
    exact ⟨(p, 0), ⟨fun _ => rfl, fun hh => (by cases hh), fun hh => (by cases hh)⟩, p0, p1, rfl⟩
  | true =>
    rw [cnd_neg _ _ (by rfl)]
    have key : ∀ (T : Int) (R : Option PSSeq) (F : Int × Int × Int → Step (Int × Int × Int) (Option PSSeq)), T = min (t + 1) 1048576 →
        R = cnd ((decide (T < (el s.2.2.2.2.1 p).2.1)) || (((bitop .and .u32 (shrop .u32 gaps (wr .u64 p)) 1) == 0) && (decide (T < (el s.2.2.2.2.1 p).2.2.1)))) (some (p, T)) (iter none F lots (1, (0, 0))) →
        (∀ i u, 1 ≤ i → i < llen s.2.2.2.2.1 → F (i, u) = cnd (callB s calls (roundP s p i)) (.done (some (roundP s p i, 0))) (.next (i + 1, u))) → (∀ u, F (llen s.2.2.2.2.1, u) = .done (some (p, T))) →
        ∃ q', NextIs s (p, t) true calls gaps q' ∧ 0 ≤ q'.1 ∧ q'.1 < llen s.2.2.2.2.1 ∧ R = some q' := fun T R F hT hR hF hFe => by
      subst hT
      rw [hR, wr_u64i p0 (by omega), andBit0 hg p0 (by omega)]
      by_cases c1 : min (t + 1) 1048576 < (el s.2.2.2.2.1 p).2.1
      · rw [cnd_pos _ _ (by rw [decide_eq_true c1]; rfl)]
        exact ⟨(p, min (t + 1) 1048576), ⟨fun hh => (by cases hh), fun _ _ => rfl, fun _ hn => absurd (.inl c1) hn⟩, p0, p1, rfl⟩
      by_cases c2 : bitI gaps p = false ∧ min (t + 1) 1048576 < (el s.2.2.2.2.1 p).2.2.1
      · rw [cnd_pos _ _ (by rw [c2.1, decide_eq_true c2.2]; simp)]
        exact ⟨(p, min (t + 1) 1048576), ⟨fun hh => (by cases hh), fun _ _ => rfl, fun _ hn => absurd (.inr (.inl c2)) hn⟩, p0, p1, rfl⟩
      rw [cnd_neg _ _ (by
        rw [decide_eq_false c1, Bool.false_or]
        apply Bool.eq_false_iff.2
        intro hh
        simp only [Bool.and_eq_true, Bool.not_eq_true', decide_eq_true_eq] at hh
        exact c2 hh)]
      refine refGo_loop (s := s) (p := p) (calls := calls) (fun r => ∃ q', NextIs s (p, t) true calls gaps q' ∧ 0 ≤ q'.1 ∧ q'.1 < llen s.2.2.2.2.1 ∧ r = some q') hm hm1 (fun i u i0 i1 => ?_) (fun hall u => ?_)
      · rw [hF i u i0 i1]
        cases hc : callB s calls (roundP s p i) with
        | true =>
          refine .inl ⟨rfl, _, rfl, fun hj => ?_⟩
          obtain ⟨r0, r1⟩ := roundP_in p0 p1 (i := i) (by omega) (by omega)
          refine ⟨(roundP s p i, 0), ⟨fun hh => (by cases hh), fun _ hh => ?_, fun _ _ => ⟨i, i0, i1, hc, hj, rfl⟩⟩, r0, r1, rfl⟩
          exfalso
          rcases hh with hh | hh | hh
          · exact c1 hh
          · exact c2 hh
          · have := hh i i0 i1; rw [hc] at this; cases this
        | false => exact .inr ⟨rfl, rfl⟩
      · rw [hFe]
        exact ⟨_, rfl, (p, min (t + 1) 1048576), ⟨fun hh => (by cases hh), fun _ _ => rfl, fun _ hn => absurd (.inr (.inr hall)) hn⟩, p0, p1, rfl⟩
    have hFi : ∀ i, 1 ≤ i → i < llen s.2.2.2.2.1 → irem (wr .i64 (p + i)) (llen s.2.2.2.2.1) = roundP s p i := fun i i0 i1 => by
      rw [wr_i64 (p + i) (by omega) (by omega)]; rfl
    have hz : (!(llen s.2.2.2.2.1 == 0)) = true := by simp; omega
    by_cases ct : t < 1048576
    · rw [cnd_pos _ _ (decide_eq_true ct), elimO_eq _ _ (idx_el p0 p1), wr_i64 (t + 1) (by omega) (by omega)]
      refine key (t + 1) _ _ (by omega) rfl (fun i u i0 i1 => ?_) (fun u => ?_)
      · try simp only
        obtain ⟨r0, r1⟩ := roundP_in p0 p1 (i := i) (by omega) (by omega)
        rw [cnd_pos _ _ (decide_eq_true i1), cnd_pos _ _ hz, hFi i i0 i1, elimO_eq _ _ (refCalls_e hm hu r0 r1), wr_i64 (i + 1) (by omega) (by omega)]
      · try simp only
        rw [cnd_neg _ _ (decide_eq_false (by omega))]
    · have ht : t = 1048576 := by omega
      rw [cnd_neg _ _ (decide_eq_false ct), elimO_eq _ _ (idx_el p0 p1)]
      refine key t _ _ (by omega) rfl (fun i u i0 i1 => ?_) (fun u => ?_)
      · try simp only
        obtain ⟨r0, r1⟩ := roundP_in p0 p1 (i := i) (by omega) (by omega)
        rw [cnd_pos _ _ (decide_eq_true i1), cnd_pos _ _ hz, hFi i i0 i1, elimO_eq _ _ (refCalls_e hm hu r0 r1), wr_i64 (i + 1) (by omega) (by omega)]
      · try simp only
        rw [cnd_neg _ _ (decide_eq_false (by omega))]

theorem refNext16_no {s : PSSite} {q : PSSeq} {now : PSSafe} {calls gaps e : Int} (hc : ref05_Check_t s = some e) (hn : ¬ (e = 0 ∧ SeqOK s q ∧ llen now.1 = llen s.2.1)) :
    ref16_Next_t (s, (q, (now, (calls, gaps)))) = some ((0, 0), ([], noR e s q)) := by
  unfold ref16_Next_t noR
  simp only
  rw [elimO_eq _ _ hc]
  by_cases h0 : e = 0
  · rw [cnd_neg _ _ (by simp [h0]), if_neg (by simpa using h0)]
    by_cases c : q.1 < 0 ∨ llen s.2.2.2.2.1 ≤ q.1 ∨ q.2 < 0 ∨ 1048576 < q.2
    · rw [cnd_pos _ _ (by simp only [Bool.or_eq_true, decide_eq_true_eq]; omega), if_pos c]
    · rw [cnd_neg _ _ (by simp only [Bool.or_eq_false_iff, decide_eq_false_iff_not]; omega), if_neg c]
      by_cases c5 : llen now.1 = llen s.2.1
      · exact absurd ⟨h0, ⟨by omega, by omega, by omega, by omega⟩, c5⟩ hn
      · rw [cnd_pos _ _ (by simpa using c5)]
  · rw [cnd_pos _ _ (by simp [h0]), if_pos h0]

theorem refNext16_e {s : PSSite} {q : PSSeq} {now : PSSafe} {calls gaps : Int} (hs : SFits s) (hS : SiteOK s) (hc : ref05_Check_t s = some 0) (hq : SeqOK s q) (hw : llen now.1 = llen s.2.1) (hu : U32ok calls) (hg : U32ok gaps) :
    ∃ q', NextIs s q (fullB s now q.1) calls gaps q' ∧ ref16_Next_t (s, (q, (now, (calls, gaps)))) = some (q', (asksV s q'.1, 0)) := by
  obtain ⟨q', h1, h2, h3, h4⟩ := refGo_e hs hS hq hw hu hg
  refine ⟨q', h1, ?_⟩
  have p0 := hq.p0; have p1 := hq.p1; have s0 := hq.s0; have s1 := hq.s1
  unfold ref16_Next_t
  simp only
  rw [elimO_eq _ _ hc, cnd_neg _ _ (by rfl), cnd_neg _ _ (by simp only [Bool.or_eq_false_iff, decide_eq_false_iff_not]; omega), cnd_neg _ _ (by simpa using hw), elimO_eq _ _ h4, elimO_eq _ _ (refWants_e hs (sok hs hS) h2 h3)]

theorem refBound16_e {s : PSSite} {e : Int} (hok : e = 0 → SiteOK s) (hs : SFits s) (hc : ref05_Check_t s = some e) : ref16_Bound_t s = some (if e ≠ 0 then (0, e) else (boundV s, 0)) := by
  unfold ref16_Bound_t
  rw [elimO_eq _ _ hc]
  by_cases h0 : e = 0
  · subst h0
    have hS := hok rfl
    have h := sok hs hS
    have hm := hS.shape.p2
    have hn := llen_nonneg s.2.2.2.2.1
    have ht := turn_in h
    have htv : turnV s = leastV s + longV s + 2 := rfl
    rw [if_neg (by simp), cnd_neg _ _ (by rfl), elimO_eq _ _ (refTurn_e h)]
    refine iter_up (fun z : Int × Int => z.2) (llen s.2.2.2.2.1) (fun z => z.1 = turnV s + costTo s z.2.toNat) (fun r => r = some (boundV s, 0)) (by omega) (by simp) hn (by simp [costTo]) (fun z hI i0 i1 => ?_) (fun z hI hz => ?_)
    · obtain ⟨a, i⟩ := z
      simp only at hI i0 i1
      have hmx := (hS.phased.1 i _ (idx_el i0 i1)).max
      have hci := cost_in h hS i.toNat (by omega)
      try simp only
      rw [cnd_pos _ _ (decide_eq_true i1), elimO_eq _ _ (idx_el i0 i1), hI, wr_i64 (i + 1) (by omega) (by omega), wr_i64 ((el s.2.2.2.2.1 i).2.2.1 + turnV s) (by omega) (by omega), wr_i64 ((el s.2.2.2.2.1 i).2.2.1 + turnV s + 2) (by omega) (by omega), wr_i64 _ (by omega) (by omega)]
      refine ⟨rfl, ?_⟩
      simp only
      rw [show (i + 1).toNat = i.toNat + 1 by omega, costTo, Int.toNat_of_nonneg i0]
      omega
    · obtain ⟨a, i⟩ := z
      simp only at hI hz
      subst hz
      try simp only
      rw [cnd_neg _ _ (decide_eq_false (by omega)), hI]
      exact rfl
  · rw [if_pos h0, cnd_pos _ _ (by simp [h0])]

theorem seqGoes_law (x : PSSite × PSSeq × PSSafe × Int × Int) (hf : FitsAll [SSite, SSeq, SSafe, U32, U32] x) : law16_SeqGoes_t x = some true := by
  obtain ⟨s, q, now, calls, gaps⟩ := x
  have hs : SFits s := sfits hf.1
  have hu : U32ok calls := fits_u32 hf.2.2.2.1
  have hg : U32ok gaps := fits_u32 hf.2.2.2.2
  unfold law16_SeqGoes_t
  obtain ⟨gr, hgr⟩ := great_s s hs
  rw [elimO_eq _ _ hgr, cnd_if]
  split
  · rfl
  rename_i hcond
  simp only [Bool.or_eq_true, decide_eq_true_eq, not_or, Int.not_lt] at hcond
  obtain ⟨_, hw⟩ := hcond
  have hw : llen now.1 ≤ 1000 := by omega
  obtain ⟨e, h2, h3⟩ := check_s hs
  have h4 : ref05_Check_t s = some e := by rw [refCheck_eq hs]; exact h2
  have hok : e = 0 → SiteOK s := fun h => check_ok h3 h
  rw [elimO_eq _ _ (twin_e hw)]
  have hboth : ∃ r, seq_Next_t (s, (q, (now, (calls, gaps)))) = some r ∧ ref16_Next_t (s, (q, (now, (calls, gaps)))) = some r := by
    by_cases hgo : e = 0 ∧ SeqOK s q ∧ llen now.1 = llen s.2.1
    · obtain ⟨h0, hq, hwn⟩ := hgo
      subst h0
      have hS := hok rfl
      obtain ⟨a, a1, _, _, _, _, a2⟩ := next_e hs hS h2 hq hwn hu hg
      obtain ⟨b, b1, b2⟩ := refNext16_e hs hS h4 hq hwn hu hg
      have := next_unique a1 b1
      subst this
      exact ⟨_, a2, b2⟩
    · exact ⟨_, next_no h2 hgo, refNext16_no h4 hgo⟩
  obtain ⟨r, r1, r2⟩ := hboth
  rw [elimO_eq _ _ r1, elimO_eq _ _ r2, elimO_eq _ _ (Bound_e hok hs h2), elimO_eq _ _ (refBound16_e hok hs h4), cnd_pos _ _ (by simp), elimO_eq _ _ (same_refl hw)]

end Go.Proofs.YtlddjfgbepbmdaaDoor
