/- Part of a proof: plain readings of Go functions, their contracts, or plain facts of them. -/
import Derived.Test.YtfdnmjabjmedgaaDoorPlqX3
namespace Go.Proofs.YtfdnmjabjmedgaaDoor
open Go.Den

/-! # Once each phase was full in time through a cycle -/
/-- a group is one of one of the last m phases ahead of a phase -/
def Cov (s : PSSite) (q : Int) (m : Int) (j : Int) : Prop := ∃ i, 1 ≤ i ∧ i ≤ m ∧ inP s ((q - i) % llen s.2.2.2.2.1) j = true
def nextN (s : PSSite) (q : Int) : Int := if q + 1 < llen s.2.2.2.2.1 then q + 1 else 0
theorem mod_back {n q i : Int} (q0 : 0 ≤ q) (q1 : q < n) : ((if q + 1 < n then q + 1 else 0) - (i + 1)) % n = (q - i) % n := by
  split
  · congr 1; omega
  · have : q = n - 1 := by omega
    subst this
    rw [show (0 : Int) - (i + 1) = (n - 1 - i) + n * (-1) by omega, Int.add_mul_emod_self_left]
theorem cov_succ {s : PSSite} {q m j : Int} (q0 : 0 ≤ q) (q1 : q < llen s.2.2.2.2.1) (m0 : 0 ≤ m) : Cov s (nextN s q) (m + 1) j ↔ inP s q j = true ∨ Cov s q m j := by
  have key := fun i => mod_back (n := llen s.2.2.2.2.1) (q := q) (i := i) q0 q1
  constructor
  · rintro ⟨i, i1, i2, hi⟩
    have hk := key (i - 1)
    rw [show i - 1 + 1 = i by omega] at hk
    unfold nextN at hi
    rw [hk] at hi
    by_cases e : i = 1
    · subst e
      rw [show q - (1 - 1) = q by omega, Int.emod_eq_of_lt q0 q1] at hi
      exact .inl hi
    · exact .inr ⟨i - 1, by omega, by omega, hi⟩
  · rintro (h | ⟨i, i1, i2, hi⟩)
    · refine ⟨1, by omega, by omega, ?_⟩
      have hk := key 0
      rw [Int.sub_zero, Int.emod_eq_of_lt q0 q1, Int.zero_add] at hk
      unfold nextN
      rw [hk]
      exact h
    · refine ⟨i + 1, by omega, by omega, ?_⟩
      unfold nextN
      rw [key i]; exact hi
theorem cov_all {s : PSSite} (hx : SFits s) (h : SiteOK s) {q m j : Int} (q0 : 0 ≤ q) (q1 : q < llen s.2.2.2.2.1) (hm : llen s.2.2.2.2.1 ≤ m) (j0 : 0 ≤ j) (j1 : j < llen s.2.1) : Cov s q m j := by
  obtain ⟨k, k0, k1, hk⟩ := all_phased hx h j0 j1
  refine ⟨if k < q then q - k else q - k + llen s.2.2.2.2.1, by split <;> omega, by split <;> omega, ?_⟩
  have : (q - (if k < q then q - k else q - k + llen s.2.2.2.2.1)) % llen s.2.2.2.2.1 = k := by
    split
    · rw [show q - (q - k) = k by omega, Int.emod_eq_of_lt k0 k1]
    · rw [show q - (q - k + llen s.2.2.2.2.1) = k + llen s.2.2.2.2.1 * (-1) by omega, Int.add_mul_emod_self_left, Int.emod_eq_of_lt k0 k1]
  rw [this]; exact hk

/-- each between and each yellow is below each phase's least -/
structure Short (s : PSSite) : Prop where
  yellow : ∀ k a, 0 ≤ k → k < llen s.2.2.2.2.1 → 0 ≤ a → a < llen s.2.1 → (el s.2.1 a).2.2 < minP s k
  betw : ∀ k a b, 0 ≤ k → k < llen s.2.2.2.2.1 → 0 ≤ a → a < llen s.2.1 → 0 ≤ b → b < llen s.2.1 → betw s a b < minP s k

/-- at the beginning of a part: of the groups of the last m phases -/
def AtB (s : PSSite) (now : PSSafe) (q pr m : Int) : Prop := ∀ j, 0 ≤ j → j < llen s.2.1 → Cov s q m j →
  (inP s q j = true → (el now.1 j).1 ≠ 3) ∧ (inP s q j = false → ∃ a, OffP s now j a ∧ (inP s pr j = true → clrV s pr ≤ a) ∧ (inP s pr j = false → minP s pr ≤ a))
/-- in the midst of a part, u ticks behind its beginning, v the place from which on the next phase is wanted -/
def AtM (s : PSSite) (now : PSSafe) (q q' u v m : Int) : Prop := ∀ j, 0 ≤ j → j < llen s.2.1 → Cov s q' m j →
  (inP s q j = true → (u ≤ v → OnP now j u) ∧ (v < u → (inP s q' j = true → (el now.1 j).1 = 2) ∧ (inP s q' j = false → OffP s now j (u - v)))) ∧
  (inP s q j = false → (inP s q' j = false → OffP s now j u) ∧ (inP s q' j = true → (u ≤ v → OffP s now j u) ∧ (v < u → (el now.1 j).1 ≠ 3)))

/-- a group that was not asked for longer than its yellow is red -/
theorem off_long {s : PSSite} {now : PSSafe} {j a : Int} (hO : OffP s now j a) (ha : (el s.2.1 j).2.2 < a) : (el now.1 j).1 ≠ 3 := fun e => by
  have := (hO.yellow e).2
  omega

theorem b_full {s : PSSite} {now : PSSafe} {q pr m : Int} (hx : SFits s) (hS : SiteOK s) (hsh : Short s) (hp : Pl s now) (q0 : 0 ≤ q) (q1 : q < llen s.2.2.2.2.1) (pr0 : 0 ≤ pr) (pr1 : pr < llen s.2.2.2.2.1) (hpr : nextP s pr = q)
    (hm : llen s.2.2.2.2.1 ≤ m) (hB : AtB s now q pr m) : fullP s (stepV s now q) q := fun j j0 j1 hj => by
  have h := sok hx hS
  have hph := php hx hS q0 q1
  have T := ptimes hx hS pr0 pr1
  have G := gtick h hp q j0 j1
  have hr := G.range
  have hny := (hB j j0 j1 (cov_all hx hS q0 q1 hm j0 j1)).1 hj
  have w3 : (el now.1 j).1 = 1 ∨ (el now.1 j).1 = 2 := by omega
  rcases w3 with e | e
  · refine turn_green h hp j0 j1 hj e fun k k0 k1 hjk => ?_
    have hk : inP s q k = false := by
      apply Bool.eq_false_iff.2
      intro hk
      have := hph.apart j k j0 j1 hj hk
      rw [hjk] at this; cases this
    obtain ⟨p1, p2, _⟩ := h.pair j k j0 j1 k0 k1
    have hkj : apartB s k j = true := by rw [← p1]; exact hjk
    have hby := ((h.pair k j k0 k1 j0 j1).2.1 hkj).2.1
    have gk := h.grp k _ (idx_el k0 k1)
    obtain ⟨a, ha, ha1, ha2⟩ := (hB k k0 k1 (cov_all hx hS q0 q1 hm k0 k1)).2 hk
    have hba : betw s k j ≤ a := by
      by_cases c : inP s pr k = true
      · have := T.clear k j k0 k1 j0 j1 c (by rw [hpr]; exact hj) hkj
        have := ha1 c
        omega
      · have := ha2 (Bool.eq_false_iff.2 c)
        have := hsh.betw pr k j pr0 pr1 k0 k1 j0 j1
        omega
    have hen := ha.ended
    have hrk := (gtick h hp q k0 k1).range
    refine ⟨hk, ?_, ?_⟩
    · have w3 : (el now.1 k).1 = 1 ∨ (el now.1 k).1 = 2 ∨ (el now.1 k).1 = 3 := by omega
      rcases w3 with f | f | f
      · exact .inl f
      · have := (ha.green f).1; omega
      · exact .inr ⟨f, by have := (ha.yellow f).1; omega⟩
    · simp only [kept_v] at hen
      omega
  · exact (G.greenOn e (.inl hj)).1

theorem b_step {s : PSSite} {now : PSSafe} {q pr m v : Int} (hx : SFits s) (hS : SiteOK s) (hG : GoesP s now) (q0 : 0 ≤ q) (q1 : q < llen s.2.2.2.2.1) (hv : 1 ≤ v) (m0 : 0 ≤ m) (hB : AtB s now q pr m)
    (hf : fullP s (stepV s now q) q) : AtM s (stepV s now q) q (nextN s q) 1 v (m + 1) := fun j j0 j1 hc => by
  have h := sok hx hS
  have hp := full_prev h (php hx hS q0 q1) hG hf
  have hc2 := (cov_succ q0 q1 m0).1 hc
  refine ⟨fun hj => ⟨fun _ => on_first h hp j0 j1 (hf j j0 j1 hj), fun hh => by omega⟩, fun hj => ?_⟩
  have hcv : Cov s q m j := by
    rcases hc2 with hh | hh
    · rw [hj] at hh; cases hh
    · exact hh
  obtain ⟨a, ha, _⟩ := (hB j j0 j1 hcv).2 hj
  have h1 := off_step h hp j0 j1 hj (by omega) (ha.weaken (b := 0) (by omega) ha.a0)
  exact ⟨fun _ => h1, fun _ => ⟨fun _ => h1, fun hh => by omega⟩⟩

theorem m_step {s : PSSite} {now : PSSafe} {q q' u v m : Int} (hx : SFits s) (hS : SiteOK s) (hsh : Short s) (hp : Pl s now) (q0 : 0 ≤ q) (q1 : q < llen s.2.2.2.2.1) (u1 : 1 ≤ u) (u2 : u < 100000) (hv : minP s q ≤ v)
    (hM : AtM s now q q' u v m) : AtM s (stepV s now (if v ≤ u then q' else q)) q q' (u + 1) v m := fun j j0 j1 hc => by
  have h := sok hx hS
  have hph := php hx hS q0 q1
  obtain ⟨h1, h2⟩ := hM j j0 j1 hc
  by_cases c : v ≤ u
  · rw [if_pos c]
    refine ⟨fun hj => ⟨fun hh => by omega, fun _ => ⟨fun hj' => ?_, fun hj' => ?_⟩⟩, fun hj => ⟨fun hj' => ?_, fun hj' => ⟨fun hh => by omega, fun _ => ?_⟩⟩⟩
    · have hg : (el now.1 j).1 = 2 := by
        by_cases d : u ≤ v
        · exact ((h1 hj).1 d).green
        · exact ((h1 hj).2 (by omega)).1 hj'
      exact ((gtick h hp q' j0 j1).greenOn hg (.inl hj')).1
    · by_cases d : u ≤ v
      · have hon := (h1 hj).1 d
        have := off_step h hp j0 j1 hj' (by omega) (on_off (s := s) hon (by have := hph.least j j0 j1 hj; unfold minP at hv; omega))
        rw [show u + 1 - v = 0 + 1 by omega]; exact this
      · have := off_step h hp j0 j1 hj' (by have := (ptimes hx hS q0 q1).min; omega) (((h1 hj).2 (by omega)).2 hj')
        rw [show u + 1 - v = u - v + 1 by omega]; exact this
    · exact off_step h hp j0 j1 hj' (by omega) ((h2 hj).1 hj')
    · refine not_yellow_step h hp j0 j1 hj' ?_
      by_cases d : u ≤ v
      · exact off_long (((h2 hj).2 hj').1 d) (by have := hsh.yellow q j q0 q1 j0 j1; omega)
      · exact ((h2 hj).2 hj').2 (by omega)
  · rw [if_neg c]
    refine ⟨fun hj => ⟨fun _ => on_step h hp j0 j1 hj (by omega) ((h1 hj).1 (by omega)), fun hh => by omega⟩, fun hj => ⟨fun hj' => ?_, fun hj' => ⟨fun _ => ?_, fun hh => by omega⟩⟩⟩
    · exact off_step h hp j0 j1 hj (by omega) ((h2 hj).1 hj')
    · exact off_step h hp j0 j1 hj (by omega) (((h2 hj).2 hj').1 (by omega))

theorem m_end {s : PSSite} {now : PSSafe} {q q' S m : Int} (hx : SFits s) (hS : SiteOK s) (hsh : Short s) (q0 : 0 ≤ q) (q1 : q < llen s.2.2.2.2.1) (hv : minP s q ≤ S - clrV s q)
    (hM : AtM s now q q' S (S - clrV s q) m) : AtB s now q' q m := fun j j0 j1 hc => by
  have h := sok hx hS
  have T := ptimes hx hS q0 q1
  have hph := php hx hS q0 q1
  have t1 := T.clr
  have t2 := T.min
  obtain ⟨h1, h2⟩ := hM j j0 j1 hc
  refine ⟨fun hj' => ?_, fun hj' => ?_⟩
  · by_cases hj : inP s q j = true
    · by_cases d : S ≤ S - clrV s q
      · have := ((h1 hj).1 d).green; omega
      · have := ((h1 hj).2 (by omega)).1 hj'; omega
    · have hj := Bool.eq_false_iff.2 hj
      by_cases d : S ≤ S - clrV s q
      · exact off_long (((h2 hj).2 hj').1 d) (by have := hsh.yellow q j q0 q1 j0 j1; omega)
      · exact ((h2 hj).2 hj').2 (by omega)
  · by_cases hj : inP s q j = true
    · by_cases d : S ≤ S - clrV s q
      · refine ⟨0, on_off (s := s) ((h1 hj).1 d) (by have := hph.least j j0 j1 hj; unfold minP at hv; omega), fun _ => by omega, fun hh => by rw [hj] at hh; cases hh⟩
      · refine ⟨_, ((h1 hj).2 (by omega)).2 hj', fun _ => by omega, fun hh => by rw [hj] at hh; cases hh⟩
    · have hj := Bool.eq_false_iff.2 hj
      refine ⟨S, (h2 hj).1 hj', fun hh => (by rw [hj] at hh; cases hh), fun _ => by omega⟩

/-- in the midst of a part whose phase is wanted, or will be next and is the same, it stays full -/
theorem m_full {s : PSSite} {now : PSSafe} {q u v m : Int} (hx : SFits s) (hS : SiteOK s) (hp : Pl s now) (q0 : 0 ≤ q) (q1 : q < llen s.2.2.2.2.1) (m1 : 1 ≤ m) (hw : (if v ≤ u then nextN s q else q) = q)
    (hM : AtM s now q (nextN s q) u v m) : fullP s (stepV s now q) q := by
  refine full_stays (sok hx hS) hp fun j j0 j1 hj => ?_
  have hc : Cov s (nextN s q) m j := by
    have := (cov_succ (s := s) (j := j) (m := m - 1) q0 q1 (by omega)).2 (.inl hj)
    rwa [show m - 1 + 1 = m by omega] at this
  obtain ⟨h1, _⟩ := hM j j0 j1 hc
  by_cases d : u ≤ v
  · exact ((h1 hj).1 d).green
  · rw [if_pos (by omega)] at hw
    exact ((h1 hj).2 (by omega)).1 (by rw [hw]; exact hj)

end Go.Proofs.YtfdnmjabjmedgaaDoor
