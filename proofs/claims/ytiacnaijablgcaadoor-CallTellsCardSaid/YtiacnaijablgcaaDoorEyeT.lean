/- Part of a proof: plain readings of Go functions, their contracts, or plain facts of them. -/
import Derived.Test.YtiacnaijablgcaaDoorEyeA
namespace Go.Proofs.YtiacnaijablgcaaDoor
open Go.Den

/-! # The document's look at all detectors -/
theorem same13 {l m : List PSLooked} (hl : llen l ≤ 1000) : ∃ b, ref13_Same_t (l, m) = some b ∧ (b = true ↔ l = m) := by
  unfold ref13_Same_t
  by_cases h : llen l = llen m
  · rw [cnd_neg _ _ (by simpa using h)]
    exact same_loop (fun a b : PSLooked => (a.1 == b.1) && ((a.2.1 == b.2.1) && ((a.2.2.1 == b.2.2.1) && ((a.2.2.2.1 == b.2.2.2.1) && ((a.2.2.2.2 == b.2.2.2.2) && true))))) (fun a b => by
      simp only [Bool.and_eq_true, beq_iff_eq, and_true, Prod.ext_iff]) h (by omega) (fun i a b h0 h1 ha hb => by
        simp only
        rw [cnd_pos _ _ (decide_eq_true h1), elimO_eq _ _ ha, elimO_eq _ _ hb]) (fun i hi => by simp only; rw [cnd_neg _ _ (decide_eq_false hi)])
  · rw [cnd_pos _ _ (by simpa using h)]
    exact ⟨false, rfl, fun h => (by cases h), fun hh => absurd (by rw [hh]) h⟩

theorem refWell13_e {s : PSSite} {l : List PSLooked} {e : Int} (hok : e = 0 → EyesOK s) (h : ref05_Check_t s = some e) (hl : llen l ≤ 1000) :
    ∃ b, ref13_Well_t (s, l) = some (if askE e s l ≠ 0 then (false, askE e s l) else (b, 0)) ∧ (askE e s l = 0 → (b = true ↔ WellV s l)) := by
  have hl' : l.length ≤ maxLen := by unfold llen at hl; unfold maxLen; omega
  unfold ref13_Well_t
  rw [elimO_eq _ _ (refAsked13_e h hl')]
  by_cases h0 : askE e s l = 0
  · obtain ⟨rfl, h1, h2⟩ := askE_ok h0
    have hok := hok rfl
    have hp2 := hok.p2
    rw [h0, cnd_neg _ _ (by rfl)]
    simp only [ne_eq, not_true, if_false, true_implies]
    refine iter_up (fun p : Int => p) (llen s.2.2.2.2.1) (fun p => ∀ q, q < p → (∃ j e x, idx s.2.2.2.2.2.1 j = some e ∧ idx l j = some x ∧ e.1 = q) → ∃ j e x, idx s.2.2.2.2.2.1 j = some e ∧ idx l j = some x ∧ e.1 = q ∧ x.2.2.2.1 = false)
      (fun a : Option (Bool × Int) => ∃ b, a = some (b, 0) ∧ (b = true ↔ WellV s l)) (by omega) (by simp) (llen_nonneg _) (fun q hq ⟨j, e, x, q1, _, q3⟩ => by have := (hok.eyes j e q1).1; omega) (fun p hI p0 p1 => ?_) (fun p hI hp => ?_)
    · have p0 : 0 ≤ p := p0
      have p1 : p < llen s.2.2.2.2.1 := p1
      rw [cnd_pos _ _ (decide_eq_true p1)]
      refine iter_up (fun z : Bool × Bool × Int => z.2.2) (llen l) (fun z => (z.1 = true ↔ ∃ j e x, j < z.2.2 ∧ idx s.2.2.2.2.2.1 j = some e ∧ idx l j = some x ∧ e.1 = p) ∧ (z.2.1 = true ↔ ∃ j e x, j < z.2.2 ∧ idx s.2.2.2.2.2.1 j = some e ∧ idx l j = some x ∧ e.1 = p ∧ x.2.2.2.1 = false)) _ (by omega) (by simp) (llen_nonneg l) ⟨?_, ?_⟩ (fun z hI2 i0 i1 => ?_) (fun z hI2 hz => ?_)
      · exact ⟨fun h => (by cases h), fun ⟨j, e, x, j1, q1, _⟩ => by have := (idx_some_iff q1).1; simp only at j1; omega⟩
      · exact ⟨fun h => (by cases h), fun ⟨j, e, x, j1, q1, _⟩ => by have := (idx_some_iff q1).1; simp only at j1; omega⟩
      · obtain ⟨has, bel, i⟩ := z
        obtain ⟨h3, h4⟩ := hI2
        simp only at i0 i1 h3 h4
        obtain ⟨x, hx, _⟩ := idx_get i0 i1
        obtain ⟨ey, he, _⟩ := idx_get (l := s.2.2.2.2.2.1) i0 (by omega)
        simp only
        rw [cnd_pos _ _ (decide_eq_true i1), elimO_eq _ _ he, wr_i64 (i + 1) (by omega) (by omega)]
        by_cases c : ey.1 = p
        · rw [cnd_pos _ _ (by simpa using c)]
          have hhas : (true = true) ↔ ∃ j e x, j < i + 1 ∧ idx s.2.2.2.2.2.1 j = some e ∧ idx l j = some x ∧ e.1 = p := ⟨fun _ => ⟨i, ey, x, by omega, he, hx, c⟩, fun _ => rfl⟩
          cases bel with
          | true =>
            rw [cnd_pos _ _ rfl]
            refine ⟨rfl, hhas, fun _ => ?_, fun _ => rfl⟩
            obtain ⟨j, e, x', j1, q⟩ := h4.1 rfl
            exact ⟨j, e, x', by simp only; omega, q⟩
          | false =>
            rw [cnd_neg _ _ rfl, elimO_eq _ _ hx]
            refine ⟨rfl, hhas, ?_⟩
            show (!x.2.2.2.1) = true ↔ _
            rw [Bool.not_eq_true']
            refine ⟨fun h => ⟨i, ey, x, by simp only; omega, he, hx, c, h⟩, fun ⟨j, e, x', j1, q1, q2, q3, q4⟩ => ?_⟩
            by_cases ej : j = i
            · subst ej; rw [hx] at q2; cases q2; exact q4
            · have := h4.2 ⟨j, e, x', by simp only at j1; omega, q1, q2, q3, q4⟩
              cases this
        · rw [cnd_neg _ _ (by simpa using c)]
          refine ⟨rfl, ?_, ?_⟩
          · show has = true ↔ _
            rw [h3]
            refine ⟨fun ⟨j, e, x', j1, q⟩ => ⟨j, e, x', by simp only; omega, q⟩, fun ⟨j, e, x', j1, q1, q2, q3⟩ => ?_⟩
            by_cases ej : j = i
            · subst ej; rw [he] at q1; cases q1; exact absurd q3 c
            · exact ⟨j, e, x', by simp only at j1; omega, q1, q2, q3⟩
          · show bel = true ↔ _
            rw [h4]
            refine ⟨fun ⟨j, e, x', j1, q⟩ => ⟨j, e, x', by simp only; omega, q⟩, fun ⟨j, e, x', j1, q1, q2, q3⟩ => ?_⟩
            by_cases ej : j = i
            · subst ej; rw [he] at q1; cases q1; exact absurd q3.1 c
            · exact ⟨j, e, x', by simp only at j1; omega, q1, q2, q3⟩
      · obtain ⟨has, bel, i⟩ := z
        obtain ⟨h3, h4⟩ := hI2
        simp only at hz h3 h4
        simp only
        rw [cnd_neg _ _ (show decide (i < llen l) = false by simp; omega), wr_i64 (p + 1) (by omega) (by omega)]
        have e3 : has = true ↔ ∃ j e x, idx s.2.2.2.2.2.1 j = some e ∧ idx l j = some x ∧ e.1 = p := h3.trans ⟨fun ⟨j, e, x, _, q⟩ => ⟨j, e, x, q⟩, fun ⟨j, e, x, q⟩ => ⟨j, e, x, by have := (idx_some_iff q.2.1).2.1; omega, q⟩⟩
        have e4 : bel = true ↔ ∃ j e x, idx s.2.2.2.2.2.1 j = some e ∧ idx l j = some x ∧ e.1 = p ∧ x.2.2.2.1 = false := h4.trans ⟨fun ⟨j, e, x, _, q⟩ => ⟨j, e, x, q⟩, fun ⟨j, e, x, q⟩ => ⟨j, e, x, by have := (idx_some_iff q.2.1).2.1; omega, q⟩⟩
        rw [cnd_if]
        split
        · rename_i c
          simp only [Bool.and_eq_true, Bool.not_eq_true'] at c
          refine ⟨false, rfl, fun h => (by cases h), fun hw => ?_⟩
          obtain ⟨j, e, x, q1, q2, q3⟩ := e3.1 c.1
          obtain ⟨k, e', x', r1, r2, r3, r4⟩ := hw j e x q1 q2
          have := e4.2 ⟨k, e', x', r1, r2, by rw [r3, q3], r4⟩
          rw [c.2] at this; cases this
        · rename_i c
          simp only [Bool.and_eq_true, Bool.not_eq_true', not_and, Bool.not_eq_false] at c
          refine ⟨rfl, fun q hq hex => ?_⟩
          by_cases eq : q = p
          · subst eq; exact e4.1 (c (e3.2 hex))
          · exact hI q (by omega) hex
    · have hp : p = llen s.2.2.2.2.1 := hp
      rw [cnd_neg _ _ (show decide (p < llen s.2.2.2.2.1) = false by simp; omega)]
      refine ⟨true, rfl, fun _ i e x q1 q2 => ?_, fun _ => rfl⟩
      obtain ⟨j, e', x', r1, r2, r3, r4⟩ := hI e.1 (by have := (hok.eyes i e q1).2; omega) ⟨i, e, x, q1, q2, rfl⟩
      exact ⟨j, e', x', r1, r2, r3, r4⟩
  · rw [cnd_pos _ _ (by simp [h0])]
    exact ⟨false, by rw [if_pos h0], fun h => absurd h h0⟩

theorem eyeTicks_law (x : PSSite × Int × PSLooked × List PSLooked × Int) (hf : FitsAll [SSite, I64, SLooked, SLookeds, U32] x) : law13_EyeTicks_t x = some true := by
  obtain ⟨s, i, x, l, ups⟩ := x
  have hs : SFits s := sfits hf.1
  have hx : XFits x := xfits hf.2.2.1
  have hlf : Fits SLookeds l := hf.2.2.2.1
  have hlx : ∀ y ∈ l, U64ok y.2.2.1 := fun y hy => (xfits (hlf.2 y hy)).turns
  have hu : U32ok ups := hf.2.2.2.2
  unfold law13_EyeTicks_t
  obtain ⟨g, hg⟩ := great_s s hs
  rw [elimO_eq _ _ hg, cnd_if]
  split
  · rfl
  rename_i h1
  have hl : llen l ≤ 60 := by simp at h1; omega
  have hn := llen_nonneg l
  obtain ⟨e, h2, h3⟩ := check_s hs
  have h4 : ref05_Check_t s = some e := by rw [refCheck_eq hs]; exact h2
  have hok : e = 0 → EyesOK s := fun h => eyesOK (check_ok h3 h)
  rw [cnd_pos _ _ (show (true && roomOK (0 + llen l) 40) = true by rw [Bool.true_and]; exact room_le (by omega)), cnd_pos _ _ (by rfl)]
  simp only [nil_app]
  rw [elimO_eq _ _ (next_e h2), elimO_eq _ _ (refNext13 h4 hx.turns), elimO_eq _ _ (all13_e hok h2 (by omega) hu), elimO_eq _ _ (refAll13_e hok h4 (by omega) hu hlx)]
  obtain ⟨w, w1, w2⟩ := well13_e hok h2 (show llen l ≤ 1000 by omega)
  obtain ⟨v, v1, v2⟩ := refWell13_e hok h4 (show llen l ≤ 1000 by omega)
  have hwv : (if askE e s l ≠ 0 then (false, askE e s l) else (w, 0)) = (if askE e s l ≠ 0 then (false, askE e s l) else (v, 0)) := by
    split
    · rfl
    · rename_i h
      have h := Decidable.not_not.1 h
      have : w = v := Bool.eq_iff_iff.2 ((w2 h).trans (v2 h).symm)
      rw [this]
  rw [elimO_eq _ _ w1, elimO_eq _ _ v1, hwv]
  have hlen : llen (allR e s ups l).1 ≤ 60 := by
    unfold allR
    split
    · show (0 : Int) ≤ 60; decide
    · show llen (allV s ups l) ≤ 60
      unfold allV; rw [llen_mapIdx]; exact hl
  obtain ⟨b, b1, b2⟩ := same13 (l := (allR e s ups l).1) (m := (allR e s ups l).1) (by omega)
  have b3 := b2.2 rfl
  subst b3
  rw [cnd_neg _ _ (by simp), elimO_eq _ _ b1]
  have hB : (eye_Believed x == x.2.2.2.1) = false := by unfold eye_Believed; cases x.2.2.2.1 <;> rfl
  have hW : eye_Wants x = ref13_Wants x := rfl
  rw [cnd_neg _ _ (by simp [hB, hW])]
  generalize allR e s ups l = r at hlen
  refine iter_up (fun z : Int × List PSLooked => z.1) (llen r.1) (fun z => llen z.2 = llen r.1) (fun a => a = some true) (by omega) (by simp) (llen_nonneg _) rfl (fun z hI i0 i1 => ?_) (fun z hI hz => ?_)
  · obtain ⟨k, c⟩ := z
    simp only at hI i0 i1
    obtain ⟨y, hy, _⟩ := idx_get (l := c) i0 (by omega)
    simp only
    rw [cnd_pos _ _ (decide_eq_true (by omega)), elimO_eq _ _ hy, elimO_eq _ _ hy, wr_i64 (k + 1) (by omega) (by omega)]
    exact ⟨rfl, by simp only; rw [llen_lset]; exact hI⟩
  · obtain ⟨k, c⟩ := z
    simp only at hI hz
    simp only
    obtain ⟨b, b1, b2⟩ := same13 (l := l) (m := l) (by omega)
    rw [cnd_neg _ _ (show decide (k < llen c) = false by simp; omega), elimO_eq _ _ b1, b2.2 rfl]
    rfl

end Go.Proofs.YtiacnaijablgcaaDoor
