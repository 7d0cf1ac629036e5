/- Part of a proof: plain readings of Go functions, their contracts, or plain facts of them. -/
import Derived.Test.YtdgiapeofmlecaaGreatDoorTrgL
namespace Go.Proofs.YtdgiapeofmlecaaGreatDoor
open Go.Den

/-! # The greatest time between -/
theorem safeGreatest_e {s : PSSite} {e : Int} (hok : e = 0 → SOK s) (h : site_Check_t s = some e) : safe_Greatest_t s = some (if e ≠ 0 then (0, e) else (grt s, 0)) := by
  unfold safe_Greatest_t
  rw [elimO_eq _ _ h]
  by_cases h0 : e = 0
  · subst h0; rw [cnd_neg _ _ (by rfl), if_neg (by simp), elimO_eq _ _ (grt_e (hok rfl))]
  · rw [cnd_pos _ _ (by simp [h0]), if_pos h0]

end Go.Proofs.YtdgiapeofmlecaaGreatDoor
