/- Part of a proof: plain readings of Go functions, their contracts, or plain facts of them. -/
import Derived.Test.YtmnkcgcbgpkbmaaLampXP
import Derived.Test.YtmnkcgcbgpkbmaaDen2
namespace Go.Proofs.Ytmnkcgcbgpkbmaa
open Go.Den

theorem kept_r (x : Int) : kept x = rkept x := by
  unfold kept rkept
  rw [gmin_eq, gmax_eq, cnd_if, cnd_if]
  split <;> rename_i h <;> simp at h
  · omega
  · split <;> rename_i h2 <;> simp at h2 <;> omega

theorem kept_b (x : Int) : 0 ≤ kept x ∧ kept x ≤ 1048576 := by
  unfold kept
  rw [gmin_eq, gmax_eq]; omega

theorem more_eq (x : Int) : more x = min (kept x + 1) 1048576 := by
  have := kept_b x
  show kept (wr .i64 (kept x + 1)) = _
  rw [wr_i64 _ (by omega) (by omega)]
  generalize kept x = k at this ⊢
  unfold kept
  rw [gmin_eq, gmax_eq]; omega

theorem more_r (x : Int) : more x = rmore x := by
  have := kept_b x
  rw [more_eq]
  unfold rmore
  simp only [letK, cnd_if, ← kept_r]
  split <;> rename_i h <;> simp at h
  · rw [wr_i64 _ (by omega) (by omega)]; omega
  · omega

theorem goes_r (x : Int) : goes x = rgoes x := by
  unfold goes rgoes
  apply Bool.eq_iff_iff.2
  simp
  omega

theorem follows_r (x : Int × Int) : follows x = rfollows x := by
  unfold follows rfollows
  simp

theorem want_r (x : (Int × Int × Int) × (Int × Int × Int) × Int) : want x = rwant x := by
  unfold want rwant letK
  rw [← kept_r]
  simp only [cnd_if]
  repeat' split
  all_goals first | rfl | (simp_all; try omega)

theorem may_r (x : (Int × Int × Int) × (Int × Int × Int) × Int) : may x = rmay x := by
  obtain ⟨⟨gk, gm, gy⟩, ⟨sa, ss, se⟩, a⟩ := x
  unfold may rmay
  simp only [letK, cnd_if, kept_r, goes_r, follows_r]
  generalize rkept ss = k
  unfold rgoes rfollows
  simp only [Bool.and_eq_true, Bool.or_eq_true, Bool.not_eq_true', beq_iff_eq, decide_eq_true_eq, beq_eq_false_iff_ne, Bool.or_eq_false_iff, Bool.and_eq_false_iff, beq_dec, ne_eq]
  repeat' split
  all_goals first | rfl | (exfalso; omega)

theorem next_r (x : (Int × Int × Int) × (Int × Int × Int) × Int) : next x = rnext x.2 := by
  unfold next rnext letK
  simp only [cnd_if, more_r]
  repeat' split
  all_goals simp_all

theorem lampSteps_law (x : (Int × Int × Int) × (Int × Int × Int) × Int) : lampSteps x = true := by
  unfold lampSteps letK
  rw [next_r, may_r, want_r, follows_r]
  simp

theorem alive_true : alive () = true := by decide

theorem lampNames_law (x : Unit) : lampNames x = true := by cases x; decide

theorem lampWants_law (x : (Int × Int × Int) × (Int × Int × Int) × Int) : lampWants x = true := by
  obtain ⟨⟨gk, gm, gy⟩, ⟨sa, ss, se⟩, a⟩ := x
  unfold lampWants
  simp only [letK, alive_true, cnd_if]
  split
  · rfl
  · rename_i h
    have hs : sa = 1 ∨ sa = 2 ∨ sa = 3 := by simp at h; omega
    unfold want may
    simp only [letK, cnd_if]
    generalize kept ss = k
    unfold goes follows
    rcases hs with rfl | rfl | rfl
    · by_cases ha : a = 2
      · subst ha; simp
      · simp [ha]
        omega
    · by_cases ha : a = 2
      · subst ha; simp
      · by_cases hk : k < gm
        · simp [ha, hk]; omega
        · simp [ha, hk]; omega
    · by_cases hk : k < gy
      · have hk' : ¬ gy ≤ k := by omega
        simp [hk, hk']; omega
      · have hk' : gy ≤ k := by omega
        simp [hk, hk']; omega

theorem next_1 (x : (Int × Int × Int) × (Int × Int × Int) × Int) : (next x).1 = x.2.2 := by
  unfold next
  simp only [letK, cnd_if]
  repeat' split
  all_goals rfl

theorem next_2 (x : (Int × Int × Int) × (Int × Int × Int) × Int) : (next x).2.1 = if x.2.2 = x.2.1.1 then more x.2.1.2.1 else 1 := by
  unfold next
  simp only [letK, cnd_if, beq_iff_eq]
  repeat' split
  all_goals rfl

theorem lampRuns_law (x : (Int × Int × Int) × (List Int)) : lampRuns_t x = some true := by
  obtain ⟨⟨gk, gm, gy⟩, l⟩ := x
  unfold lampRuns_t
  simp only [letK, alive_true]
  rw [cnd_if]
  split
  · rfl
  rename_i h4
  have h4 : llen l ≤ 4000 := by simp at h4; omega
  refine iter_ind (fun s => 0 ≤ s.2.1 ∧ s.2.1 ≤ llen l ∧ 1 ≤ s.1 ∧ s.1 ≤ s.2.1 + 1 ∧ s.2.2.2.1 = s.1 ∧ (s.2.2.1 = 1 ∨ s.2.2.1 = 2 ∨ s.2.2.1 = 3) ∧ (s.2.2.1 = 3 → s.1 ≤ max 1 gy)) (fun s => (llen l - s.2.1).toNat) (fun a => a = some true) ?_ lots _ ?_ ?_
  · rintro ⟨n, i, sa, ss, se⟩ ⟨h0, h1, h2, h3, h5, h6, h7⟩
    simp only at h0 h1 h2 h3 h5 h6 h7 ⊢
    subst h5
    rw [cnd_if]
    split
    · rename_i hi
      have hi : i < llen l := by simpa using hi
      obtain ⟨a, ha, _⟩ := idx_get h0 hi
      rw [ha]
      simp only [elimO]
      have hk : kept ss = ss := by unfold kept; rw [gmin_eq, gmax_eq]; omega
      have hw : want ((gk, gm, gy), (sa, ss, se), a) = (if sa = 1 then (if a = 2 then 2 else 1) else if sa = 2 then (if a = 2 ∨ ss < gm then 2 else 3) else if ss < gy then 3 else 1) := by
        unfold want
        simp only [letK, cnd_if, hk]
        rcases h6 with rfl | rfl | rfl <;> simp
      generalize want ((gk, gm, gy), (sa, ss, se), a) = w at hw ⊢
      have hm : more ss = ss + 1 := by rw [more_eq, hk]; omega
      have hw1 : wr .i64 (ss + 1) = ss + 1 := wr_i64 _ (by omega) (by omega)
      have hw2 : wr .i64 (i + 1) = i + 1 := wr_i64 _ (by omega) (by omega)
      rw [cnd_if]
      split
      · rename_i he
        have he : w = sa := by simpa using he
        subst he
        rw [cnd_if]
        simp only [next_1, next_2, hw1, hm, if_true]
        simp only [beq_self_eq_true, Bool.not_true, Bool.or_self, Bool.false_eq_true, if_false]
        simp only [Round, next_1, next_2, hw1, hw2, hm, if_true]
        refine ⟨⟨by omega, by omega, by omega, by omega, trivial, h6, fun h => ?_⟩, by omega⟩
        subst h
        simp at hw
        omega
      · rename_i he
        have he : w ≠ sa := by simpa using he
        have hf : follows (sa, w) = true := by
          rcases h6 with rfl | rfl | rfl
          · simp at hw
            split at hw
            · subst hw; rfl
            · exact absurd hw he
          · simp at hw
            split at hw
            · exact absurd hw he
            · subst hw; rfl
          · simp at hw
            split at hw
            · exact absurd hw he
            · subst hw; rfl
        rw [cnd_if, hf]
        have hc : ((!true || sa == 2 && decide (ss < gm)) || sa == 3 && !(ss == gmax 1 gy)) = false := by
          rw [gmax_eq]
          rcases h6 with rfl | rfl | rfl
          · simp
          · simp at hw ⊢
            split at hw
            · exact absurd hw he
            · omega
          · simp at hw ⊢
            have := h7 rfl
            split at hw
            · exact absurd hw he
            · omega
        rw [if_neg (by rw [hc]; simp)]
        rw [cnd_if]
        simp only [next_1, next_2, he, if_false]
        simp only [beq_self_eq_true, Bool.not_true, Bool.or_self, Bool.false_eq_true, if_false]
        simp only [Round, next_1, next_2, hw2, he, if_false]
        have hw' : w = 1 ∨ w = 2 ∨ w = 3 := by
          rw [hw]; repeat' split
          all_goals omega
        exact ⟨⟨by omega, by omega, by omega, by omega, trivial, hw', fun _ => by omega⟩, by omega⟩
    · rfl
  · refine ⟨by simp, ?_, by simp, by simp, rfl, .inl rfl, fun h => by simp at h⟩
    simp [llen]
  · rw [lots_eq]; simp only; omega

end Go.Proofs.Ytmnkcgcbgpkbmaa
