/- Part of a proof: plain readings of Go functions, their contracts, or plain facts of them. -/
import Derived.Test.YtlddjfgbepbmdaaDoorSeqX
namespace Go.Proofs.YtlddjfgbepbmdaaDoor
open Go.Den

/-! # A tick of the sequencer and its gate -/
theorem at_e {l : List Int} {n : Int} (n0 : 0 ≤ n) (hl : ∀ x ∈ l, U32ok x) : ∃ x, law16_at_t (l, n) = some x ∧ U32ok x := by
  have hln := llen_nonneg l
  unfold law16_at_t
  simp only
  by_cases c : llen l = 0
  · rw [cnd_pos _ _ (by simpa using c)]
    exact ⟨0, rfl, by simp, by simp⟩
  · rw [cnd_neg _ _ (by simpa using c), cnd_pos _ _ (by simpa using c)]
    have h0 : 0 ≤ irem n (llen l) := by unfold irem; exact Int.tmod_nonneg _ n0
    have h1 : irem n (llen l) < llen l := by unfold irem; exact Int.tmod_lt_of_pos _ (by omega)
    obtain ⟨x, hx, hm⟩ := idx_get h0 h1
    rw [elimO_eq _ _ hx]
    exact ⟨x, rfl, hl x hm⟩

theorem step_e {s : PSSite} {q : PSSeq} {now : PSSafe} {calls gaps : Int} (hs : SFits s) (hS : SiteOK s) (hc : site_Check_t s = some 0) (hq : SeqOK s q) (hG : GoesP s now) (hu : U32ok calls) (hg : U32ok gaps) :
    ∃ q', NextIs s q (fullB s now q.1) calls gaps q' ∧ SeqOK s q' ∧ law16_step_t (s, (q, (now, (calls, gaps)))) = some (q', (stepV s now q'.1, true)) := by
  have h := sok hs hS
  obtain ⟨q', h1, h2, h3, h4, h5, h6⟩ := next_e hs hS hc hq hG.may.st.n hu hg
  obtain ⟨t1, t2⟩ := tick_e (p := q'.1) h hc hG
  refine ⟨q', h1, ⟨h2, h3, h4, h5⟩, ?_⟩
  unfold law16_step_t
  simp only
  rw [elimO_eq _ _ h6, elimO_eq _ _ t1, elimO_eq _ _ t2]
  rfl

end Go.Proofs.YtlddjfgbepbmdaaDoor
