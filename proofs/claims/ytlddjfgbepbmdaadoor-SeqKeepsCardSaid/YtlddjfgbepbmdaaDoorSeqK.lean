/- Part of a proof: plain readings of Go functions, their contracts, or plain facts of them. -/
import Derived.Test.YtlddjfgbepbmdaaDoorSeqY2
namespace Go.Proofs.YtlddjfgbepbmdaaDoor
open Go.Den

/-! # How long a phase is kept -/
theorem others_loop {s : PSSite} {p calls : Int} {A : Type} {bad : A} {F : Bool × Int → Step (Bool × Int) A} (P : A → Prop) (hm : llen s.2.2.2.2.1 ≤ 8)
    (hF : ∀ b k, 0 ≤ k → k < llen s.2.2.2.2.1 → F (b, k) = .next (b || (!(k == p) && callB s calls k), k + 1))
    (hK : ∀ b, (b = true ↔ ∃ k, 0 ≤ k ∧ k < llen s.2.2.2.2.1 ∧ k ≠ p ∧ callB s calls k = true) → ∃ r, F (b, llen s.2.2.2.2.1) = .done r ∧ P r) : P (iter bad F lots (false, 0)) := by
  have hn := llen_nonneg s.2.2.2.2.1
  refine iter_up (fun z : Bool × Int => z.2) (llen s.2.2.2.2.1) (fun z => z.1 = true ↔ ∃ k, 0 ≤ k ∧ k < z.2 ∧ k ≠ p ∧ callB s calls k = true) P (by omega) (by simp) hn ⟨fun hh => (by cases hh), fun ⟨k, k0, k1, _⟩ => by simp only at k1; omega⟩ (fun z hI i0 i1 => ?_) (fun z hI hz => ?_)
  · obtain ⟨b, i⟩ := z
    simp only at hI i0 i1
    rw [hF b i i0 i1]
    refine ⟨rfl, ?_⟩
    simp only [Bool.or_eq_true, Bool.and_eq_true, Bool.not_eq_true', beq_eq_false_iff_ne, ne_eq]
    rw [hI]
    constructor
    · rintro (⟨k, k0, k1, k2⟩ | ⟨k1, k2⟩)
      · exact ⟨k, k0, by omega, k2⟩
      · exact ⟨i, i0, by omega, k1, k2⟩
    · rintro ⟨k, k0, k1, k2, k3⟩
      by_cases e : k = i
      · subst e; exact .inr ⟨k2, k3⟩
      · exact .inl ⟨k, k0, by omega, k2, k3⟩
  · obtain ⟨b, i⟩ := z
    simp only at hI hz
    subst hz
    obtain ⟨r, hr, hP⟩ := hK b hI
    rw [hr]; exact hP

theorem seqKeeps_law (x : PSSite × Int × List Int × List Int) (hf : FitsAll [SSite, I64, U32s, U32s] x) : law16_SeqKeeps_t x = some true := by
  obtain ⟨s, phase, calls, gaps⟩ := x
  have hs : SFits s := sfits hf.1
  have hcu : ∀ x ∈ calls, U32ok x := fun x hx => hf.2.2.1.2 x hx
  have hgu : ∀ x ∈ gaps, U32ok x := fun x hx => hf.2.2.2.2 x hx
  unfold law16_SeqKeeps_t
  rw [show law16_alive_t () = some true from rfl, elimO_eq _ _ rfl]
  obtain ⟨g, hg⟩ := great_s s hs
  rw [elimO_eq _ _ hg, cnd_if]
  split
  · rfl
  rename_i hcond
  simp only [Bool.or_eq_true, decide_eq_true_eq, not_or, Int.not_lt, Bool.not_true, Bool.false_eq_true, not_false_eq_true, and_true] at hcond
  obtain ⟨⟨_, p0⟩, p1⟩ := hcond
  obtain ⟨e, h2, h3⟩ := check_s hs
  have hok : e = 0 → SOK s := fun h => sok hs (check_ok h3 h)
  rw [elimO_eq _ _ (safeFirst_e hok h2)]
  by_cases h0 : e = 0
  · subst h0
    have hS := check_ok h3 rfl
    have h := hok rfl
    have hm := hS.shape.p2
    rw [if_neg (by simp), cnd_neg _ _ (by rfl)]
    refine iter_up (fun z : Int × Int × PSSafe × PSSeq => z.2.1) 120 (fun z => 0 ≤ z.1 ∧ z.1 ≤ z.2.1 ∧ GoesP s z.2.2.1 ∧ SeqOK s z.2.2.2 ∧ z.2.2.2.2 = z.1 ∧ (z.1 = 0 ∨ fullP s z.2.2.1 z.2.2.2.1)) (fun r => r = some true) (by omega) (by simp) (by simp) ⟨by simp, by simp, goes_first h, ⟨p0, by simp only; omega, by simp, by simp⟩, rfl, .inl rfl⟩ (fun z hI i0 i1 => ?_) (fun z hI hz => ?_)
    · obtain ⟨lasted, n, now, p, t⟩ := z
      obtain ⟨l0, l1, hG, hq, ht, hful⟩ := hI
      simp only at i0 i1 l0 l1 hG hq ht hful
      subst ht
      obtain ⟨c, hc, hcu⟩ := at_e i0 hcu
      obtain ⟨gp, hgp, hgu⟩ := at_e i0 hgu
      obtain ⟨q', hN, hq', hst⟩ := step_e hs hS h2 hq hG hcu hgu
      have hfull : turn_Full_t (s, (now, p)) = some (fullB s now p, 0) := by
        rw [Full_e (e := 0) hs (fun _ => h) h2]
        unfold fullR
        have := hG.may.st.n; have := hq.p0; have := hq.p1
        simp only at *
        rw [if_neg (by simp), if_neg (by omega), if_neg (by omega)]
      have hmx := (hS.phased.1 p _ (idx_el hq.p0 hq.p1))
      have hmax := hmx.max
      have hle := hmx.le
      have hG' := goes_step h hG q'.1
      have wn : wr .i64 (n + 1) = n + 1 := wr_i64 _ (by omega) (by omega)
      have wt : wr .i64 (t + 1) = t + 1 := wr_i64 _ (by omega) (by omega)
      have hmin : min (t + 1) 1048576 = t + 1 := by omega
      try simp only
      rw [cnd_pos _ _ (decide_eq_true i1), elimO_eq _ _ hfull, elimO_eq _ _ hc, elimO_eq _ _ hgp, elimO_eq _ _ hst, cnd_neg _ _ (by rfl), wn, wt]
      cases hf : fullB s now p with
      | false =>
        rw [hf] at hN
        have hno := fullB_not.1 hf
        have ht0 : t = 0 := hful.elim id fun hh => absurd hh hno
        have e := hN.off rfl
        rw [cnd_pos _ _ (by rfl), cnd_neg _ _ (by rw [e, ht0]; simp)]
        exact ⟨rfl, l0, by simp only; omega, hG', hq', by rw [e]; exact ht0.symm, .inl ht0⟩
      | true =>
        rw [hf] at hN
        have hyes := fullB_iff.1 hf
        have hpl := full_pl (php hs hS hq.p0 hq.p1) hG hyes
        rw [cnd_neg _ _ (by rfl)]
        have oth : (∃ k, 0 ≤ k ∧ k < llen s.2.2.2.2.1 ∧ k ≠ p ∧ callB s c k = true) ↔ ¬ ∀ i, 1 ≤ i → i < llen s.2.2.2.2.1 → callB s c (roundP s p i) = false := by
          constructor
          · rintro ⟨k, k0, k1, k2, k3⟩ hall
            obtain ⟨i, i0, i1, hi, _⟩ := roundP_ex hq.p0 hq.p1 k0 k1 k2
            have := hall i i0 i1
            rw [hi, k3] at this; cases this
          · intro hn
            apply Classical.byContradiction
            intro hno
            apply hn
            intro i i0 i1
            apply Bool.eq_false_iff.2
            intro hcall
            obtain ⟨r0, r1⟩ := roundP_in hq.p0 hq.p1 (i := i) (by omega) (by omega)
            exact hno ⟨_, r0, r1, roundP_ne hq.p0 hq.p1 i0 i1, hcall⟩
        refine others_loop (s := s) (p := p) (calls := c) _ hm (fun b k k0 k1 => ?_) (fun b hb => ⟨_, cnd_neg _ _ (decide_eq_false (by simp only; omega)), ?_⟩)
        · try simp only
          rw [cnd_pos _ _ (decide_eq_true k1), wr_i64 (k + 1) (by omega) (by omega)]
          cases b with
          | true => rfl
          | false =>
            rw [cnd_neg _ _ rfl]
            by_cases ek : k = p
            · rw [cnd_neg _ _ (by simp [ek])]; simp [ek]
            · rw [cnd_pos _ _ (by simpa using ek), elimO_eq _ _ (idx_el k0 k1), elimO_eq _ _ hc, wr_u64i k0 (by omega), andBit hcu k0 (by omega)]
              have : (k == p) = false := by simpa using ek
              rw [this]
              unfold callB
              cases (el s.2.2.2.2.1 k).2.2.2.2 <;> rfl
        · have hbo := hb.trans oth
          by_cases c1 : (min (t + 1) 1048576 < (el s.2.2.2.2.1 p).2.1 ∨ (bitI gp p = false ∧ min (t + 1) 1048576 < (el s.2.2.2.2.1 p).2.2.1) ∨ ∀ i, 1 ≤ i → i < llen s.2.2.2.2.1 → callB s c (roundP s p i) = false)
          · have e := hN.stay rfl c1
            rw [hmin] at e
            subst e
            have hfin : UpRound (fun z : Int × Int × PSSafe × PSSeq => z.2.1) (fun z => 0 ≤ z.1 ∧ z.1 ≤ z.2.1 ∧ GoesP s z.2.2.1 ∧ SeqOK s z.2.2.2 ∧ z.2.2.2.2 = z.1 ∧ (z.1 = 0 ∨ fullP s z.2.2.1 z.2.2.2.1)) (fun r => r = some true) n (.next (t + 1, (n + 1, (stepV s now p, (p, t + 1)))) : Step (Int × Int × PSSafe × PSSeq) (Option Bool)) :=
              ⟨rfl, by simp only; omega, by simp only; omega, hG', hq', rfl, .inr (full_stays h hpl hyes)⟩
            have hz : (!((t + 1) == (t + 1))) = false := by simp
            rw [cnd_neg _ _ (by simp)]
            cases b with
            | false => rw [cnd_neg _ _ rfl, cnd_neg _ _ hz]; exact hfin
            | true =>
              rw [cnd_pos _ _ rfl, elimO_eq _ _ (idx_el hq.p0 hq.p1)]
              by_cases c2 : (el s.2.2.2.2.1 p).2.2.1 ≤ t + 1
              · exfalso
                have := hbo.1 rfl
                rcases c1 with c1 | c1 | c1
                · omega
                · omega
                · exact this c1
              · rw [cnd_neg _ _ (decide_eq_false c2), cnd_neg _ _ hz]; exact hfin
          · obtain ⟨i, i0', i1', i2, i3, e⟩ := hN.move rfl c1
            simp only [not_or] at c1
            have hb1 : b = true := hbo.2 c1.2.2
            have hne := roundP_ne (s := s) hq.p0 hq.p1 i0' i1'
            subst e hb1
            have d1 : decide (t + 1 < (el s.2.2.2.2.1 p).2.1) = false := decide_eq_false (by omega)
            rw [cnd_pos _ _ (by simpa using hne), elimO_eq _ _ (idx_el hq.p0 hq.p1), cnd_neg _ _ (by simp only; rw [d1]; rfl)]
            exact ⟨rfl, by simp, by simp only; omega, hG', hq', rfl, .inl rfl⟩
    · obtain ⟨lasted, n, now, q⟩ := z
      simp only at hz
      try simp only
      rw [cnd_neg _ _ (decide_eq_false (by omega))]
      exact rfl
  · rw [if_pos h0, cnd_pos _ _ (by simp [h0])]

end Go.Proofs.YtlddjfgbepbmdaaDoor
