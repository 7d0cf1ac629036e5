/- Part of a proof: plain readings of Go functions, their contracts, or plain facts of them. -/
import Derived.Test.YtfdnmjabjmedgaaDoorPlqL
namespace Go.Proofs.YtfdnmjabjmedgaaDoor
open Go.Den

open Classical in
noncomputable def safeNextR (e : Int) (s : PSSite) (now : PSSafe) (l : List Int) : PSSafe × Int × Int :=
  if e ≠ 0 then (([], (0, false)), (0, e)) else if ¬ MayP s now then (([], (0, false)), (0, 8)) else
  if faultV s now l ≠ 0 then (now, (faultV s now l, 0)) else (behindV s now l, (0, 0))

theorem safeNext_e {s : PSSite} {now : PSSafe} {l : List Int} {e : Int} (hok : e = 0 → SOK s) (h : site_Check_t s = some e) (hw : llen now.1 ≤ 1000) (hl : l.length ≤ maxLen) : safe_Next_t (s, (now, l)) = some (safeNextR e s now l) := by
  unfold safe_Next_t safeNextR
  rw [elimO_eq _ _ h]
  by_cases h0 : e = 0
  · subst h0
    have hk := hok rfl
    obtain ⟨r, r1, r2⟩ := may_e hk hw
    rw [cnd_neg _ _ (by rfl), if_neg (by simp), elimO_eq _ _ r1]
    by_cases c : MayP s now
    · rw [cnd_neg _ _ (by rw [r2.2 c]; rfl), if_neg (by simpa using c), elimO_eq _ _ (fault_e hk c.st.n hl)]
      by_cases c2 : faultV s now l = 0
      · rw [cnd_neg _ _ (by simp [c2]), if_neg (by simp [c2]), elimO_eq _ _ (behind_e hk c.st (fault_len c2))]
      · rw [cnd_pos _ _ (by simp [c2]), if_pos c2, elimO_eq _ _ (clone_seen_e hw)]
    · have : r = false := by
        cases hr : r with
        | false => rfl
        | true => exact absurd (r2.1 hr) c
      rw [cnd_pos _ _ (by rw [this]; rfl), if_pos c]
  · rw [cnd_pos _ _ (by simp [h0]), if_pos h0]

end Go.Proofs.YtfdnmjabjmedgaaDoor
