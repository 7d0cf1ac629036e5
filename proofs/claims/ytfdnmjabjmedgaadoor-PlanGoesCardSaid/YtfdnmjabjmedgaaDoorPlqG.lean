/- Part of a proof: plain readings of Go functions, their contracts, or plain facts of them. -/
import Derived.Test.YtfdnmjabjmedgaaDoorPlqS
namespace Go.Proofs.YtfdnmjabjmedgaaDoor
open Go.Den

theorem great_s (x : PSSite) (hx : SFits x) : ∃ b, ref05_Great_t x = some b := by
  unfold ref05_Great_t
  rw [cnd_if]
  split
  · exact ⟨_, rfl⟩
  · refine iter_allQ (l := x.2.2.2.1) (fun a : Option Bool => ∃ b, a = some b) (fun _ r => ¬ 40 < llen r) (some true) _ hx.b (fun i r h0 hi hr => ?_) (fun i hi => by simp only [hi, decide_false, cnd_false]; rfl) (fun _ => ?_) (fun _ => ⟨_, rfl⟩)
    · simp only [hi, decide_true, cnd_true, hr, elimO_some]
      by_cases h : 40 < llen r
      · exact .inr ⟨fun hh => hh h, by simp only [h, decide_true, cnd_true]⟩
      · exact .inl ⟨h, by simp only [h, decide_false, cnd_false]⟩
    · refine iter_allQ (l := x.2.2.2.2.2.2.2.2.2.2.2) (fun a : Option Bool => ∃ b, a = some b) (fun _ p => ¬ 40 < llen p.2.2) (some true) (some false) hx.q (fun i r h0 hi hr => ?_) (fun i hi => by simp only [hi, decide_false, cnd_false]) (fun _ => ⟨_, rfl⟩) (fun _ => ⟨_, rfl⟩)
      simp only [hi, decide_true, cnd_true, hr, elimO_some]
      by_cases h : 40 < llen r.2.2
      · exact .inr ⟨fun hh => hh h, by simp only [h, decide_true, cnd_true]⟩
      · exact .inl ⟨h, by simp only [h, decide_false, cnd_false]⟩

theorem check_ok {s : PSSite} {e : Int} (h3 : (e = 0 ∧ SiteOK s) ∨ (e = 50 ∧ ¬ SiteOK s)) (h : e = 0) : SiteOK s := by
  rcases h3 with h3 | h3
  · exact h3.2
  · rw [h] at h3; exact absurd h3.1 (by decide)

end Go.Proofs.YtfdnmjabjmedgaaDoor
