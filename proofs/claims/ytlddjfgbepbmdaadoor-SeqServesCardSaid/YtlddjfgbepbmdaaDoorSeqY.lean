/- Part of a proof: plain readings of Go functions, their contracts, or plain facts of them. -/
import Derived.Test.YtlddjfgbepbmdaaDoorSeqA
namespace Go.Proofs.YtlddjfgbepbmdaaDoor
open Go.Den

/-! # The document's look at standings -/
theorem twin_e {now : PSSafe} (h : llen now.1 ≤ 1000) : ref08_Twin_t now = some now := by
  unfold ref08_Twin_t
  rw [cnd_pos _ _ (by rw [Bool.true_and]; exact room_le (by omega))]
  rfl

theorem same_refl {a : PSSafe} (h : llen a.1 ≤ 1000) : ref08_Same_t (a, a) = some true := by
  unfold ref08_Same_t
  rw [cnd_neg _ _ (by simp)]
  refine iter_allQ (l := a.1) (fun r : Option Bool => r = some true) (fun _ _ => True) (some false) (some true) (by unfold llen at h; unfold maxLen; omega) (fun i w h0 hi hw => ?_) (fun i hi => by (try simp only); rw [cnd_neg _ _ (decide_eq_false hi)]) (fun _ => rfl) (fun hh => absurd (fun _ _ _ => trivial) hh)
  try simp only
  rw [cnd_pos _ _ (decide_eq_true hi), elimO_eq _ _ hw, elimO_eq _ _ hw, cnd_neg _ _ (by simp)]
  exact .inl ⟨trivial, rfl⟩

end Go.Proofs.YtlddjfgbepbmdaaDoor
