/- Part of a proof: plain readings of Go functions, their contracts, or plain facts of them. -/
import Derived.Test.YtnkhijnppfnomaaDoorLadR
import Derived.Test.YtnkhijnppfnomaaDoorLadB
namespace Go.Proofs.YtnkhijnppfnomaaDoor
open Go.Den

theorem refLights_s {s : PSSite} {l : List Int} (hl : l.length ≤ maxLen) : ref10_lights_t (s, l) = some (lightE s l) := lights_s hl

theorem refLoop_s {s : PSSite} {lit seen : List Int} (hsn : seen.length ≤ maxLen) (h1 : lightE s lit = 0) (h2 : llen seen = 0 ∨ lightE s seen = 0) :
    iter none (fun x4 : Int =>
(cnd (decide (x4 < (llen seen)))
(elimO (idx seen x4) (.done none) (fun x5 =>
(elimO (idx lit x4) (.done none) (fun x6 =>
(cnd (!(x5 == x6))
(.done (some (true, 0)))
(.next (wr .i64 (x4 + 1))))))))
(.done (some (false, (0 : Int)))))) lots 0 = some (wrongR s lit seen) := by
  have hlit := (lightE_ok.1 h1).1
  refine iter_allQ (l := seen) (fun a : Option (Bool × Int) => a = some (wrongR s lit seen)) (fun i a => idx lit i = some a) (some (true, 0)) (some (false, 0)) hsn (fun i a h0 hi ha => ?_) (fun i hi => by simp [hi, cnd]) (fun h => ?_) (fun h => ?_)
  · have h3 : llen seen = llen s.2.1 := by
      rcases h2 with h2 | h2
      · omega
      · exact (lightE_ok.1 h2).1
    obtain ⟨b, hb, _⟩ := idx_get (l := lit) h0 (by omega)
    simp only [hi, decide_true, cnd_true, ha, elimO_some, hb]
    by_cases e : a = b
    · subst e; exact .inl ⟨rfl, by simp only [beq_self_eq_true, Bool.not_true, cnd_false]⟩
    · exact .inr ⟨fun hh => e (Option.some.inj hh).symm, by simp only [beq_false_of_ne e, Bool.not_false, cnd_true]⟩
  · unfold wrongR
    rw [if_neg (by simp [h1])]
    split
    · rfl
    · rename_i hz
      have h2 := h2.resolve_left hz
      rw [if_neg (by simp [h2])]
      have : lit = seen := idx_ext (by have := (lightE_ok.1 h2).1; omega) fun j j0 j1 => by
        obtain ⟨a, ha, _⟩ := idx_get (l := seen) j0 (by have := (lightE_ok.1 h2).1; omega)
        rw [ha]; exact h j a ha
      simp [this]
  · unfold wrongR
    rw [if_neg (by simp [h1])]
    have hne : seen ≠ [] := fun e => h (fun i a ha => by subst e; have := idx_some_iff ha; exact absurd this.2.2 (by simp))
    have hz : ¬ llen seen = 0 := by
      unfold llen
      cases seen with
      | nil => exact absurd rfl hne
      | cons => simp; omega
    rw [if_neg hz]
    have h2 := h2.resolve_left hz
    rw [if_neg (by simp [h2])]
    have : lit ≠ seen := fun e => h (fun i a ha => by rw [e]; exact ha)
    simp [this]

theorem refWrong_s {s : PSSite} {e : Int} {lit seen : List Int} (h : ref05_Check_t s = some e) (hl : lit.length ≤ maxLen) (hsn : seen.length ≤ maxLen) : ref10_Wrong_t (s, (lit, seen)) = some (if e ≠ 0 then (false, e) else wrongR s lit seen) := by
  unfold ref10_Wrong_t
  rw [elimO_eq _ _ h]
  by_cases h0 : e = 0
  · rw [cnd_pos _ _ (by simp [h0]), elimO_eq _ _ (refLights_s hl), if_neg (by simp [h0])]
    by_cases h1 : lightE s lit = 0
    · by_cases h2 : 0 < llen seen
      · rw [cnd_pos _ _ (by simp [h1, h2]), elimO_eq _ _ (refLights_s hsn)]
        by_cases h3 : lightE s seen = 0
        · rw [cnd_neg _ _ (by simp [h3])]
          exact refLoop_s hsn h1 (.inr h3)
        · rw [cnd_pos _ _ (by simp [h3])]
          unfold wrongR
          rw [if_neg (by simp [h1]), if_neg (by omega), if_pos h3]
      · rw [cnd_neg _ _ (by simp [h2]), cnd_neg _ _ (by simp [h1])]
        exact refLoop_s hsn h1 (.inl (by have h5 := llen_nonneg seen; have h2 : ¬ 0 < llen seen := h2; exact Int.le_antisymm (Int.not_lt.1 h2) h5))
    · rw [cnd_neg _ _ (by simp [h1]), cnd_pos _ _ (by simp [h1])]
      unfold wrongR
      rw [if_pos h1]
  · rw [cnd_neg _ _ (by simp [h0]), cnd_neg _ _ (by simp [h0]), cnd_pos _ _ (by simp [h0]), if_pos h0]

theorem refBackNext_s {s : PSSite} {n e : Int} {lit seen : List Int} (h : ref05_Check_t s = some e) (hl : lit.length ≤ maxLen) (hsn : seen.length ≤ maxLen) : ref10_Next_t (s, (n, (lit, seen))) = some (nextR e s n lit seen) := by
  unfold ref10_Next_t nextR
  rw [elimO_eq _ _ h]
  by_cases h0 : e = 0
  · subst h0
    rw [if_neg (by simp)]
    by_cases h1 : n < 0 ∨ 1048576 < n
    · rw [if_pos h1, cnd_pos _ _ (by simpa using h1)]
    · rw [if_neg h1, cnd_neg _ _ (by simpa using h1), elimO_eq _ _ (refWrong_s h hl hsn), if_neg (by simp)]
      rw [cnd_if, gmin_eq, wr_i64 (n + 1) (by omega) (by omega)]
      by_cases h2 : (wrongR s lit seen).2 ≠ 0 ∨ (wrongR s lit seen).1 = false
      · rw [if_pos h2, if_pos (by simpa using h2)]
      · rw [if_neg h2, if_neg (by simpa using h2)]
  · rw [if_pos h0, cnd_neg _ _ (by simp [h0]), elimO_eq _ _ (refWrong_s h hl hsn), if_pos h0, cnd_pos _ _ (by simp)]

theorem refLatch_s {s : PSSite} {n e : Int} (h : ref05_Check_t s = some e) : ref10_Latches_t (s, n) = some (latchR e s n) := by
  unfold ref10_Latches_t latchR
  rw [elimO_eq _ _ h]
  by_cases h0 : e = 0
  · subst h0
    rw [if_neg (by simp), cnd_neg _ _ (by simp)]
    by_cases h1 : n < 0 ∨ 1048576 < n
    · rw [if_pos h1, cnd_pos _ _ (by simpa using h1)]
    · rw [if_neg h1, cnd_neg _ _ (by simpa using h1)]
  · rw [if_pos h0, cnd_pos _ _ (by simp [h0])]

theorem backWrong_law (x : PSSite × Int × List Int × List Int) (hf : FitsAll [SSite, I64, U8s, U8s] x) : law10_BackWrong_t x = some true := by
  obtain ⟨s, n, p, q⟩ := x
  have hs : SFits s := sfits hf.1
  have hp : p.length ≤ maxLen ∧ _ := fits_u8s hf.2.2.1
  have hq : q.length ≤ maxLen ∧ _ := fits_u8s hf.2.2.2
  unfold law10_BackWrong_t
  obtain ⟨g, hg⟩ := great_s s hs
  rw [elimO_eq _ _ hg, cnd_if]
  split
  · rfl
  rename_i h1
  simp only [Bool.or_eq_true, decide_eq_true_eq, not_or] at h1
  obtain ⟨e, h2, h3⟩ := check_s hs
  have h4 : ref05_Check_t s = some e := by rw [refCheck_eq hs]; exact h2
  have r1 : (true && roomOK (0 + llen p) 1) = true := by rw [room_le (by omega)]; rfl
  have r2 : (true && roomOK (0 + llen q) 1) = true := by rw [room_le (by omega)]; rfl
  rw [cnd_pos _ _ r1, cnd_pos _ _ r2]
  simp only [List.nil_append]
  rw [elimO_eq _ _ (backWrong_s h2 hp.1 hq.1), elimO_eq _ _ (refWrong_s h4 hp.1 hq.1), elimO_eq _ _ (backNext_s h2 hp.1 hq.1), elimO_eq _ _ (refBackNext_s h4 hp.1 hq.1), elimO_eq _ _ (latch_s h2), elimO_eq _ _ (refLatch_s h4)]
  simp

end Go.Proofs.YtnkhijnppfnomaaDoor
