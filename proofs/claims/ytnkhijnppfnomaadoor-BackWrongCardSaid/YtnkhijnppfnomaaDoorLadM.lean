/- Part of a proof: plain readings of Go functions, their contracts, or plain facts of them. -/
import Derived.Test.YtnkhijnppfnomaaDoorLadL
namespace Go.Proofs.YtnkhijnppfnomaaDoor
open Go.Den

theorem next_s {s : PSSite} {r : PSRung} (f : PSFacts) (hs : SFits s) (hok : SiteOK s) (hr : RungOK r) : ladder_Next_t (s, (r, f)) = some (ladder_step (s, (r, f)), 0) := by
  obtain ⟨e, h1, h2⟩ := asked_s (r := r) hs hr.mode.1
  have he : e = 0 := by
    rcases h2 with h2 | h2 | h2
    · exact h2.1
    · exact absurd hr h2.2.2
    · exact absurd hok h2.2
  subst he
  unfold ladder_Next_t
  simp only [h1, elimO_some, beq_self_eq_true, Bool.not_true, cnd_false]
  rfl

theorem check_ok {s : PSSite} {e : Int} (h3 : (e = 0 ∧ SiteOK s) ∨ (e = 50 ∧ ¬ SiteOK s)) (h : e = 0) : SiteOK s := by
  rcases h3 with h3 | h3
  · exact h3.2
  · rw [h] at h3; exact absurd h3.1 (by decide)

theorem ladderFirst_law (x : PSSite × Int × PSFacts) (hf : FitsAll [SSite, U8, SFacts] x) : law22_LadderFirst_t x = some true := by
  obtain ⟨s, k, f⟩ := x
  have hs : SFits s := sfits hf.1
  unfold law22_LadderFirst_t
  obtain ⟨g, hg⟩ := great_s s hs
  have hy : ∃ m, (m = 1 ∨ m = 2) ∧ ladder_First k = (m, (0, false)) := by
    unfold ladder_First
    rw [cnd_if]
    split
    · exact ⟨2, .inr rfl, rfl⟩
    · exact ⟨1, .inl rfl, rfl⟩
  obtain ⟨m, hm, hy⟩ := hy
  simp only [alive22, elimO_some, Bool.not_true, cnd_false, hg, letK, hy]
  rw [cnd_if, if_neg (by rcases hm with rfl | rfl <;> simp)]
  rw [cnd_if]
  split
  · rfl
  obtain ⟨e, h2, h3⟩ := check_s hs
  simp only [h2, elimO_some]
  rw [cnd_if]
  split
  · rfl
  rename_i h4
  have hok := check_ok h3 (by simpa using h4)
  have hro : RungOK (m, (0, false)) := ⟨by simp only; omega, by simp, fun h => by cases h⟩
  rw [next_s f hs hok hro]
  simp only [elimO_some, beq_self_eq_true, Bool.true_and]
  have hst := step_eq s (m, (0, false)) f hro
  have hheal := hok.timed.heal
  have hma := may_le (m, (0, false)) f
  have key : (s.2.2.2.2.2.2.2.2.1 == 1 || decide ((ladder_step (s, ((m, (0, false)), f))).1 < 3)) = true := by
    rw [hst, Bool.or_eq_true, beq_iff_eq, decide_eq_true_eq]
    split
    · exact .inr (by decide)
    · split
      · exact .inr (by simp only at *; omega)
      · split
        · exact .inl (by simp only at *; omega)
        · exact .inr (by simp only at *; omega)
  rw [key]

theorem ladderUp_law (x : PSSite × Int × List PSFacts) (hf : FitsAll [SSite, U8, SFactss] x) : law22_LadderUp_t x = some true := by
  obtain ⟨s, md, l⟩ := x
  have hs : SFits s := sfits hf.1
  have hmd : 0 ≤ md ∧ md ≤ 255 := hf.2.1
  unfold law22_LadderUp_t
  obtain ⟨g, hg⟩ := great_s s hs
  simp only [alive22, elimO_some, Bool.not_true, cnd_false, hg]
  rw [cnd_if]
  split
  · rfl
  rename_i h1
  have hl : llen l ≤ 300 ∧ md ≤ 3 := by simp at h1; omega
  obtain ⟨e, h2, h3⟩ := check_s hs
  simp only [h2, elimO_some]
  rw [cnd_if]
  split
  · rfl
  rename_i h4
  have hok := check_ok h3 (by simpa using h4)
  have hheal := hok.timed.heal
  have hro : RungOK (md, (0, false)) := ⟨⟨hmd.1, hl.2⟩, by simp, fun h => by cases h⟩
  have hrun : ladder_Run_t (s, ((md, (0, false)), l)) = some (stepsOf s (md, (0, false)) l, 0) := by
    rcases run_s (l := l) (r := (md, (0, false))) hs hmd.1 with ⟨_, _, _, h⟩ | ⟨_, _, _, h⟩
    · exact h
    · exact absurd (by have := hl.1; unfold llen at this; omega) (h hok hro)
  have hlen : llen (stepsOf s (md, (0, false)) l) = llen l := by unfold llen; rw [steps_len]
  simp only [hrun, elimO_some, beq_self_eq_true, Bool.not_true, cnd_false, hlen, Bool.or_self]
  refine iter_ind (fun z => 0 ≤ z.2.1 ∧ z.2.1 ≤ llen l ∧ RungOK z.2.2 ∧ z.1 = z.2.2.2.1 ∧ stepsOf s z.2.2 (l.drop z.2.1.toNat) = (stepsOf s (md, (0, false)) l).drop z.2.1.toNat) (fun z => (llen l - z.2.1).toNat) (fun a => a = some true) ?_ lots (0, (0, (md, (0, false)))) ⟨by simp, llen_nonneg l, hro, rfl, rfl⟩ (by rw [lots_eq]; simp only; omega)
  rintro ⟨we, i, was⟩ ⟨i0, i1, hwas, hwe, hd⟩
  simp only at i0 i1 hwas hwe hd
  subst hwe
  by_cases hi : i < llen l
  · obtain ⟨f, hfi, _⟩ := idx_get i0 hi
    have hfi' : l[i.toNat]? = some f := by rw [← idx_of_nat i0]; exact hfi
    obtain ⟨q1, q2⟩ := steps_get s l (md, (0, false)) i.toNat f was hfi' hd
    have hx : idx (stepsOf s (md, (0, false)) l) i = some (ladder_step (s, (was, f))) := by rw [idx_of_nat i0]; exact q1
    have hso := step_ok (s := s) f hwas hheal.2
    have hmo := hwas.mode
    have hwell := hwas.well
    have hla := hwas.latched
    simp only [hi, decide_true, cnd_true, hfi, hx, elimO_some, letK]
    have next : ∀ w, w = (ladder_step (s, (was, f))).2.1 → Round (fun z => 0 ≤ z.2.1 ∧ z.2.1 ≤ llen l ∧ RungOK z.2.2 ∧ z.1 = z.2.2.2.1 ∧ stepsOf s z.2.2 (l.drop z.2.1.toNat) = (stepsOf s (md, (0, false)) l).drop z.2.1.toNat) (fun z => (llen l - z.2.1).toNat) (fun a : Option Bool => a = some true) (llen l - i).toNat (.next (w, ((wr .i64 (i + 1)), ladder_step (s, (was, f))))) := fun w hw => by
      rw [wr_i64 (i + 1) (by omega) (by omega)]
      refine ⟨⟨by simp only; omega, by simp only; omega, hso, hw, ?_⟩, (by show (llen l - (i + 1)).toNat < (llen l - i).toNat; omega)⟩
      simp only
      rw [show (i + 1).toNat = i.toNat + 1 by omega]
      exact q2
    have e : ladder_May (was, f) = ladder_may (was, f) := rfl
    rw [e, wr_u8 (was.1 + 1) (by omega) (by omega), wr_i64 (was.2.1 + 1) (by omega) (by omega)]
    have hst := step_eq s was f hwas
    have hm := may_le was f
    have h0 : was.2.2 = true ∨ f.2.2.2 = false → ladder_may (was, f) = 0 := fun h => by
      unfold ladder_may
      rw [cnd_if, if_pos]
      rcases h with h | h <;> simp [h]
    generalize ladder_step (s, (was, f)) = y at hst next hso ⊢
    generalize ladder_may (was, f) = m at hst hm h0 ⊢
    generalize s.2.2.2.2.2.2.2.2.1 = heal at hst hheal ⊢
    by_cases c1 : was.2.2 = true ∨ f.2.2.2 = false
    · rw [if_pos c1] at hst
      have hm0 := h0 c1
      subst hst; subst hm0
      have a1 : decide (was.1 < 0) = false := by simp; omega
      have a2 : decide (heal ≤ 0) = false := by simp; omega
      simp only [a1, a2, cnd_false, beq_self_eq_true, Bool.not_true]
      have b := next 0 rfl
      cases hz : ((0 : Int) == was.1) <;> simp only [Bool.not_true, Bool.not_false, cnd_true, cnd_false] <;> exact b
    · rw [if_neg c1] at hst
      by_cases c2 : m ≤ was.1
      · rw [if_pos c2] at hst
        subst hst
        have a1 : decide (was.1 < m) = false := by simp; omega
        have a2 : decide (heal ≤ 0) = false := by simp; omega
        simp only [a1, a2, cnd_false, beq_self_eq_true, Bool.not_true]
        have b := next 0 rfl
        cases hz : (m == was.1) <;> simp only [Bool.not_true, Bool.not_false, cnd_true, cnd_false] <;> exact b
      · rw [if_neg c2] at hst
        have a1 : decide (was.1 < m) = true := by simp; omega
        by_cases c3 : heal ≤ was.2.1 + 1
        · rw [if_pos c3] at hst
          subst hst
          have a2 : decide (heal ≤ was.2.1 + 1) = true := by simp; omega
          have a3 : decide (was.1 < was.1 + 1) = true := by simp; omega
          have a4 : (was.1 + 1 == was.1) = false := by simp; omega
          simp only [a1, a2, a3, a4, cnd_true, cnd_false, beq_self_eq_true, Bool.not_true, Bool.not_false]
          exact next 0 rfl
        · rw [if_neg c3] at hst
          subst hst
          have a2 : decide (heal ≤ was.2.1 + 1) = false := by simp; omega
          have a3 : decide (was.1 < was.1) = false := by simp
          simp only [a1, a2, a3, cnd_true, cnd_false, beq_self_eq_true, Bool.not_true]
          exact next (was.2.1 + 1) rfl
  · simp only [hi, decide_false, cnd_false]
    rfl

end Go.Proofs.YtnkhijnppfnomaaDoor
