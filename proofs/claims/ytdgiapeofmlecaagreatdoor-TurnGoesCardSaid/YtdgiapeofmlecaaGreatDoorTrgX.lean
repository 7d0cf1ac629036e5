/- Part of a proof: plain readings of Go functions, their contracts, or plain facts of them. -/
import Derived.Test.YtdgiapeofmlecaaGreatDoorTrgW
namespace Go.Proofs.YtdgiapeofmlecaaGreatDoor
open Go.Den

/-! # The document's turns -/
theorem refAsks15_e {s : PSSite} {p e : Int} (hs : SFits s) (hok : e = 0 → SOK s) (hc : ref05_Check_t s = some e) : ref15_Asks_t (s, p) = some (asksR e s p) := by
  unfold ref15_Asks_t asksR
  rw [elimO_eq _ _ hc]
  by_cases h0 : e = 0
  · subst h0
    rw [cnd_neg _ _ (by rfl), if_neg (by simp)]
    by_cases c : p < 0 ∨ llen s.2.2.2.2.1 ≤ p
    · rw [cnd_pos _ _ (by simpa using c), if_pos c]
    · rw [cnd_neg _ _ (by simpa using c), if_neg c, elimO_eq _ _ (refWants_e hs (hok rfl) (by omega) (by omega))]
  · rw [cnd_pos _ _ (by simp [h0]), if_pos h0]

theorem refFull15_e {s : PSSite} {now : PSSafe} {p e : Int} (hs : SFits s) (hok : e = 0 → SOK s) (hc : ref05_Check_t s = some e) : ref15_Full_t (s, (now, p)) = some (fullR e s now p) := by
  unfold ref15_Full_t fullR
  rw [elimO_eq _ _ hc]
  by_cases h0 : e = 0
  · subst h0
    rw [cnd_neg _ _ (by rfl), if_neg (by simp)]
    by_cases c0 : llen now.1 = llen s.2.1
    · rw [cnd_neg _ _ (by simpa using c0), if_neg (by simpa using c0)]
      by_cases c : p < 0 ∨ llen s.2.2.2.2.1 ≤ p
      · rw [cnd_pos _ _ (by simpa using c), if_pos c]
      · rw [cnd_neg _ _ (by simpa using c), if_neg c, elimO_eq _ _ (refWhole_e hs (hok rfl) c0 (by omega) (by omega))]
    · rw [cnd_pos _ _ (by simpa using c0), if_pos c0]
  · rw [cnd_pos _ _ (by simp [h0]), if_pos h0]

theorem refWorst15_e {s : PSSite} {e : Int} (hok : e = 0 → SOK s) (hc : ref05_Check_t s = some e) : ref15_Worst_t s = some (if e ≠ 0 then (0, e) else (turnV s, 0)) := by
  unfold ref15_Worst_t
  rw [elimO_eq _ _ hc]
  by_cases h0 : e = 0
  · rw [cnd_neg _ _ (by simp [h0]), elimO_eq _ _ (refTurn_e (hok h0)), if_neg (by simpa using h0)]
  · rw [cnd_pos _ _ (by simp [h0]), if_pos h0]

theorem refSteps15_e {s : PSSite} {now : PSSafe} {p e : Int} (hs : SFits s) (hok : e = 0 → SOK s) (hc : ref05_Check_t s = some e) (hw : llen now.1 ≤ 1000) : ∃ r, ref15_Steps_t (s, (now, p)) = some r ∧ StepsR e s now p r := by
  unfold ref15_Steps_t
  rw [elimO_eq _ _ hc]
  by_cases h0 : e = 0
  · subst h0
    have h := hok rfl
    rw [cnd_neg _ _ (by rfl)]
    obtain ⟨g, g1, g2⟩ := refGoes_e h hw
    try simp only
    rw [elimO_eq _ _ g1]
    by_cases hG : GoesP s now
    · rw [cnd_neg _ _ (by rw [g2.2 hG]; rfl)]
      by_cases c : p < 0 ∨ llen s.2.2.2.2.1 ≤ p
      · rw [cnd_pos _ _ (by simpa using c)]
        have : stepsE 0 s now p = 2 := by
          unfold stepsE
          rw [if_neg (by simp), if_neg (by simpa using hG), if_pos c]
        exact ⟨_, rfl, .inl ⟨by rw [this]; decide, by rw [this]⟩⟩
      · have p0 : 0 ≤ p := by omega
        have p1 : p < llen s.2.2.2.2.1 := by omega
        rw [cnd_neg _ _ (by simpa using c), elimO_eq _ _ (refWants_e hs h p0 p1)]
        obtain ⟨r, r1, r2⟩ := steps_loop (s := s) (now := now) (p := p) (F := fun x4 : Int × PSSafe =>
(cnd (decide (x4.1 ≤ 4096))
(elimO (ref15_Whole_t (s, (x4.2, p))) (.done none) (fun x5 =>
(cnd x5
(.done (some (x4.1, 0)))
(elimO (ref09_Let_t (s, (x4.2, asksV s p))) (.done none) (fun x6 =>
(elimO (ref08_Behind_t (s, (x4.2, x6))) (.done none) (fun x7 =>
(.next ((wr .i64 (x4.1 + 1)), x7)))))))))
(.done (some (0, 4))))) h hG (fun n w i0 i1 hGw => by
          have hwn := hGw.may.st.n
          have hl := llen_asks s p
          have hfe := refWhole_e hs h hwn p0 p1
          have hlet := let_e h hwn hl
          have hbe := refBehind8_e h hGw.may.st (llen_admit hwn hl)
          constructor
          · intro hf
            try simp only
            rw [cnd_pos _ _ (decide_eq_true (by omega)), elimO_eq _ _ hfe, cnd_pos _ _ (fullB_iff.2 hf)]
          · intro hf
            try simp only
            rw [cnd_pos _ _ (decide_eq_true (by omega)), elimO_eq _ _ hfe, cnd_neg _ _ (fullB_not.2 hf), elimO_eq _ _ hlet, elimO_eq _ _ hbe, wr_i64 (n + 1) (by omega) (by omega)]
            rfl) (fun w => by
          try simp only
          rw [cnd_neg _ _ (decide_eq_false (by omega))])
        exact ⟨r, r1, .inr ⟨rfl, hG, p0, p1, r2⟩⟩
    · have : g = false := by
        cases hg : g with
        | false => rfl
        | true => exact absurd (g2.1 hg) hG
      rw [cnd_pos _ _ (by rw [this]; rfl)]
      have : stepsE 0 s now p = 8 := by
        unfold stepsE
        rw [if_neg (by simp), if_pos hG]
      exact ⟨_, rfl, .inl ⟨by rw [this]; decide, by rw [this]⟩⟩
  · rw [cnd_pos _ _ (by simp [h0])]
    have : stepsE e s now p = e := by
      unfold stepsE
      rw [if_pos h0]
    exact ⟨_, rfl, .inl ⟨by rw [this]; exact h0, by rw [this]⟩⟩

theorem turnGoes_law (x : PSSite × PSSafe × Int) (hf : FitsAll [SSite, SSafe, I64] x) : law15_TurnGoes_t x = some true := by
  obtain ⟨s, now, p⟩ := x
  have hs : SFits s := sfits hf.1
  unfold law15_TurnGoes_t
  obtain ⟨g, hg⟩ := great_s s hs
  rw [elimO_eq _ _ hg, cnd_if]
  split
  · rfl
  rename_i hcond
  simp only [Bool.or_eq_true, decide_eq_true_eq, not_or, Int.not_lt] at hcond
  have hw : llen now.1 ≤ 1000 := Int.le_trans hcond.2 (by decide)
  obtain ⟨e, h2, h3⟩ := check_s hs
  have h4 : ref05_Check_t s = some e := by rw [refCheck_eq hs]; exact h2
  have hok : e = 0 → SOK s := fun h => sok hs (check_ok h3 h)
  rw [elimO_eq _ _ (far_e hok h4), cnd_if]
  generalize (if e = 0 then decide (400 < turnV s) || decide (200 < now.2.1) else false) = far
  cases far with
  | true => rfl
  | false =>
    obtain ⟨a, a1, a2⟩ := Steps_e (p := p) hs hok h2 hw
    obtain ⟨b, b1, b2⟩ := refSteps15_e (p := p) hs hok h4 hw
    have := stepsR_unique a2 b2
    subst this
    rw [if_neg (by simp), elimO_eq _ _ (twin_e hw), elimO_eq _ _ (Asks_e hs hok h2), elimO_eq _ _ (refAsks15_e hs hok h4), elimO_eq _ _ (Full_e hs hok h2), elimO_eq _ _ (refFull15_e hs hok h4), elimO_eq _ _ (Worst_e hok h2), elimO_eq _ _ (refWorst15_e hok h4), elimO_eq _ _ a1, elimO_eq _ _ b1, cnd_pos _ _ (by simp), elimO_eq _ _ (same_refl hw)]

end Go.Proofs.YtdgiapeofmlecaaGreatDoor
