/- Part of a proof: plain readings of Go functions, their contracts, or plain facts of them. -/
import Derived.Test.YtnkhijnppfnomaaDoorLadR
import Derived.Test.YtnkhijnppfnomaaDoorLadM
namespace Go.Proofs.YtnkhijnppfnomaaDoor
open Go.Den

theorem rungMay_iff {r : PSRung} (h : 0 ≤ r.1) : ref22_RungMay r = true ↔ RungOK r := by
  unfold ref22_RungMay
  rw [cnd_if]
  split
  · rename_i c
    simp only [Bool.or_eq_true, decide_eq_true_eq] at c
    refine ⟨fun hh => (by cases hh), fun hh => ?_⟩
    have := hh.mode; have := hh.well
    omega
  · rename_i c
    simp only [Bool.or_eq_true, decide_eq_true_eq, not_or, Int.not_lt] at c
    simp only [Bool.or_eq_true, Bool.not_eq_true', Bool.and_eq_true, beq_iff_eq]
    constructor
    · intro hh
      refine ⟨⟨h, by omega⟩, by omega, fun hl => ?_⟩
      rcases hh with hh | hh
      · rw [hl] at hh; cases hh
      · exact hh
    · intro hh
      cases hl : r.2.2 with
      | false => exact .inl rfl
      | true => exact .inr (hh.latched hl)

theorem asked_e {s : PSSite} {r : PSRung} {e : Int} (h : site_Check_t s = some e) (h1 : 0 ≤ r.1) : ladder_asked_t (s, r) = some (if e ≠ 0 then e else if ref22_RungMay r = true then 0 else 8) := by
  unfold ladder_asked_t
  rw [elimO_eq _ _ h]
  by_cases h0 : e = 0
  · subst h0
    rw [cnd_neg _ _ (by simp), if_neg (by simp), cnd_if]
    split
    · rename_i c
      rw [if_neg]
      rw [rungMay_iff h1]
      intro hr
      have a := hr.mode
      have b := hr.well
      have d := hr.latched
      simp only [Bool.or_eq_true, Bool.and_eq_true, decide_eq_true_eq, Bool.not_eq_true', beq_eq_false_iff_ne, ne_eq] at c
      rcases c with ((c | c) | c) | ⟨c, c'⟩
      · omega
      · omega
      · omega
      · have := d c; omega
    · rename_i c
      rw [if_pos]
      rw [rungMay_iff h1]
      simp only [Bool.or_eq_true, Bool.and_eq_true, decide_eq_true_eq, Bool.not_eq_true', beq_eq_false_iff_ne, ne_eq, not_or, not_and] at c
      exact ⟨⟨h1, by omega⟩, by omega, fun hl => ⟨Decidable.not_not.1 (c.2 hl).1, Decidable.not_not.1 (c.2 hl).2⟩⟩
  · rw [cnd_pos _ _ (by simp [h0]), if_pos h0]

theorem refMay_eq (x : PSRung × PSFacts) : ref22_May x = ladder_may x := by
  unfold ref22_May ladder_may
  rfl

theorem refStep_eq {s : PSSite} {r : PSRung} (f : PSFacts) (hr : RungOK r) : ref22_step (s, (r, f)) = ladder_step (s, (r, f)) := by
  rw [step_eq s r f hr]
  have h1 := hr.mode
  have h2 := hr.well
  unfold ref22_step
  simp only [letK, refMay_eq]
  rw [wr_i64 (r.2.1 + 1) (by omega) (by omega), wr_u8 (r.1 + 1) (by omega) (by omega)]
  simp only [cnd_if]
  by_cases c : r.2.2 = true ∨ f.2.2.2 = false
  · rw [if_pos c, if_pos (by simpa using c)]
  · rw [if_neg c, if_neg (by simpa using c)]
    simp only [decide_eq_true_eq, beq_iff_eq]
    by_cases c1 : ladder_may (r, f) < r.1
    · rw [if_pos c1, if_pos (by omega)]
    · rw [if_neg c1]
      by_cases c2 : ladder_may (r, f) = r.1
      · rw [if_pos c2, if_pos (by omega), c2]
      · rw [if_neg c2, if_neg (show ¬ (ladder_may (r, f) ≤ r.1) by omega)]

def runR (e : Int) (s : PSSite) (r : PSRung) (l : List PSFacts) : List PSRung × Int :=
  if e ≠ 0 then ([], e) else if ref22_RungMay r = true then (if 4096 < llen l then ([], 4) else (stepsOf s r l, 0)) else ([], 8)

theorem run_e {s : PSSite} {r : PSRung} {l : List PSFacts} {e : Int} (hs : SFits s) (h : site_Check_t s = some e) (h1 : 0 ≤ r.1) : ladder_Run_t (s, (r, l)) = some (runR e s r l) := by
  unfold runR
  by_cases h0 : e = 0
  · subst h0
    rw [if_neg (by simp)]
    by_cases h2 : ref22_RungMay r = true
    · rw [if_pos h2]
      by_cases h3 : 4096 < llen l
      · rw [if_pos h3]
        unfold ladder_Run_t
        rw [elimO_eq _ _ (asked_e h h1), if_neg (by simp), if_pos h2, cnd_neg _ _ (by rfl), cnd_pos _ _ (by simpa using h3)]
      · rw [if_neg h3]
        obtain ⟨e', k1, k2⟩ := check_s hs
        rw [h] at k1; cases k1
        rcases run_s (l := l) (r := r) hs h1 with ⟨_, _, _, k⟩ | ⟨_, _, _, k⟩
        · exact k
        · exact absurd (by unfold llen at h3; omega) (k (check_ok k2 rfl) ((rungMay_iff h1).1 h2))
    · rw [if_neg h2]
      unfold ladder_Run_t
      rw [elimO_eq _ _ (asked_e h h1), if_neg (by simp), if_neg h2, cnd_pos _ _ (by rfl)]
  · rw [if_pos h0]
    unfold ladder_Run_t
    rw [elimO_eq _ _ (asked_e h h1), if_pos h0, cnd_pos _ _ (by simp [h0])]

theorem refRun_e {s : PSSite} {r : PSRung} {l : List PSFacts} {e : Int} (hs : SFits s) (h : ref05_Check_t s = some e) (h1 : 0 ≤ r.1) : ref22_Run_t (s, (r, l)) = some (runR e s r l) := by
  unfold runR ref22_Run_t
  rw [elimO_eq _ _ h]
  by_cases h0 : e = 0
  · subst h0
    rw [if_neg (by simp), cnd_neg _ _ (by simp), letK_app]
    by_cases h2 : ref22_RungMay r = true
    · rw [if_pos h2, cnd_neg _ _ (by simp [h2])]
      by_cases h3 : 4096 < llen l
      · rw [if_pos h3, cnd_pos _ _ (by simpa using h3)]
      · rw [if_neg h3, cnd_neg _ _ (by simpa using h3)]
        obtain ⟨e', k1, k2⟩ := refCheck_s hs
        rw [h] at k1; cases k1
        have hok := check_ok k2 rfl
        have hheal := hok.timed.heal
        have hro := (rungMay_iff h1).1 h2
        refine iter_ind (fun z => 0 ≤ z.2.1 ∧ z.2.1 ≤ llen l ∧ llen z.1 = z.2.1 ∧ RungOK z.2.2 ∧ z.1 ++ stepsOf s z.2.2 (l.drop z.2.1.toNat) = stepsOf s r l) (fun z => (llen l - z.2.1).toNat) (fun a : Option (List PSRung × Int) => a = some (stepsOf s r l, 0)) ?_ lots ([], (0, r)) ⟨by simp, llen_nonneg l, rfl, hro, rfl⟩ (by rw [lots_eq]; simp only; omega)
        rintro ⟨out, i, w⟩ ⟨i0, i1, i2, hw, i3⟩
        simp only at i0 i1 i2 hw i3
        by_cases hi : i < llen l
        · obtain ⟨f, hf, _⟩ := idx_get i0 hi
          have hf' : l[i.toNat]? = some f := by rw [← idx_nat i0]; exact hf
          have hlt : i.toNat < l.length := (List.getElem?_eq_some_iff.1 hf').1
          have hfe : l[i.toNat] = f := (List.getElem?_eq_some_iff.1 hf').2
          have hroom : (true && roomOK (llen out + llen (ladder_step (s, (w, f)) :: ([] : List PSRung))) 24) = true := by
            rw [room_le (by unfold llen at i2 hi h3 ⊢; simp only [List.length_cons, List.length_nil]; omega)]; rfl
          rw [cnd_pos _ _ (decide_eq_true hi), elimO_eq _ _ hf, letK_app]
          simp only [refStep_eq f hw]
          rw [cnd_pos _ _ hroom, wr_i64 (i + 1) (by omega) (by omega)]
          refine ⟨⟨by simp only; omega, by simp only; omega, ?_, step_ok f hw hheal.2, ?_⟩, (by show (llen l - (i + 1)).toNat < (llen l - i).toNat; omega)⟩
          · simp only
            rw [llen_snoc]; omega
          · simp only
            rw [← i3, List.drop_eq_getElem_cons hlt, hfe, stepsOf, show (i + 1).toNat = i.toNat + 1 by omega]
            simp
        · rw [cnd_neg _ _ (decide_eq_false hi)]
          have : l.drop i.toNat = [] := List.drop_eq_nil_of_le (by unfold llen at hi; omega)
          rw [this, stepsOf, List.append_nil] at i3
          show some (out, (0 : Int)) = _
          rw [i3]
    · rw [if_neg h2, cnd_pos _ _ (by simp [h2])]
  · rw [if_pos h0, cnd_pos _ _ (by simp [h0])]

theorem same_s {l : List PSRung} (hl : llen l ≤ 5000) : ref22_Same_t (l, l) = some true := by
  unfold ref22_Same_t
  rw [cnd_neg _ _ (by simp)]
  refine iter_allQ (l := l) (fun a : Option Bool => a = some true) (fun _ _ => True) (some false) (some true) (by unfold llen at hl; unfold maxLen; omega) (fun i a h0 hi ha => .inl ⟨trivial, ?_⟩) (fun i hi => by simp [hi, cnd]) (fun _ => rfl) (fun h => absurd (fun _ _ _ => trivial) h)
  simp only [hi, decide_true, cnd_true, ha, elimO_some]
  rw [cnd_neg _ _ (by simp)]

theorem ladderSteps_law (x : PSSite × PSRung × PSFacts × List PSFacts × Int) (hf : FitsAll [SSite, SRung, SFacts, SFactss, U8] x) : law22_LadderSteps_t x = some true := by
  obtain ⟨s, r, f, l, k⟩ := x
  have hs : SFits s := sfits hf.1
  have hr0 : (0 ≤ r.1 ∧ r.1 ≤ 255) ∧ _ := fits_rung hf.2.1
  unfold law22_LadderSteps_t
  obtain ⟨g, hg⟩ := great_s s hs
  rw [elimO_eq _ _ hg, cnd_if]
  split
  · rfl
  rename_i h1
  simp only [Bool.or_eq_true, decide_eq_true_eq, not_or] at h1
  obtain ⟨e, h2, h3⟩ := check_s hs
  have h4 : ref05_Check_t s = some e := by rw [refCheck_eq hs]; exact h2
  have r1 : (true && roomOK (0 + llen l) 4) = true := by rw [room_le (by omega)]; rfl
  rw [cnd_pos _ _ r1]
  have n1 : ladder_Next_t (s, (r, f)) = some (if e ≠ 0 then ((0, (0, false)), e) else if ref22_RungMay r = true then (ladder_step (s, (r, f)), 0) else ((0, (0, false)), 8)) := by
    unfold ladder_Next_t
    rw [elimO_eq _ _ (asked_e h2 hr0.1.1)]
    by_cases h0 : e = 0
    · subst h0
      by_cases c : ref22_RungMay r = true
      · rw [if_neg (by simp), if_pos c, if_neg (by simp), if_pos c, cnd_neg _ _ (by rfl), letK_app]
      · rw [if_neg (by simp), if_neg c, if_neg (by simp), if_neg c, cnd_pos _ _ (by rfl)]
    · rw [if_pos h0, if_pos h0, cnd_pos _ _ (by simp [h0])]
  have n2 : ref22_Next_t (s, (r, f)) = some (if e ≠ 0 then ((0, (0, false)), e) else if ref22_RungMay r = true then (ladder_step (s, (r, f)), 0) else ((0, (0, false)), 8)) := by
    unfold ref22_Next_t
    rw [elimO_eq _ _ h4]
    by_cases h0 : e = 0
    · subst h0
      rw [cnd_neg _ _ (by rfl), letK_app]
      by_cases c : ref22_RungMay r = true
      · rw [if_neg (by simp), if_pos c, cnd_neg _ _ (by simp [c]), letK_app, refStep_eq f ((rungMay_iff hr0.1.1).1 c)]
      · rw [if_neg (by simp), if_neg c, cnd_pos _ _ (by simp [c])]
    · rw [if_pos h0, cnd_pos _ _ (by simp [h0])]
  simp only [List.nil_append]
  rw [elimO_eq _ _ n1, elimO_eq _ _ n2, elimO_eq _ _ (run_e hs h2 hr0.1.1), elimO_eq _ _ (refRun_e hs h4 hr0.1.1)]
  refine iter_allQ (l := l) (fun a : Option Bool => a = some true) (fun _ _ => True) (some false) _ hf.2.2.2.1.1 (fun i a h0 hi ha => .inl ⟨trivial, ?_⟩) (fun i hi => by rw [decide_eq_false hi, cnd_false]) (fun _ => ?_) (fun h => absurd (fun _ _ _ => trivial) h)
  · simp only [hi, decide_true, cnd_true, ha, elimO_some]
    rw [cnd_neg _ _ (by simp)]
  · have hlen : llen (runR e s r l).1 ≤ 5000 := by
      unfold runR
      split
      · show (0 : Int) ≤ 5000; decide
      · split
        · split
          · show (0 : Int) ≤ 5000; decide
          · unfold llen; rw [steps_len]; unfold llen at h1; omega
        · show (0 : Int) ≤ 5000; decide
    rw [cnd_pos _ _ (by simp), elimO_eq _ _ (same_s hlen)]
    have e1 : ladder_May (r, f) = ref22_May (r, f) := (refMay_eq (r, f)).symm
    have e2 : ladder_First k = ref22_First k := rfl
    simp only [e1, e2]
    simp

end Go.Proofs.YtnkhijnppfnomaaDoor
