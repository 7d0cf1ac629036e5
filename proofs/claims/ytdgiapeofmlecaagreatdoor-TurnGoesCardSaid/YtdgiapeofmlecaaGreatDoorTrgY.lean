/- Part of a proof: plain readings of Go functions, their contracts, or plain facts of them. -/
import Derived.Test.YtdgiapeofmlecaaGreatDoorTrgA
namespace Go.Proofs.YtdgiapeofmlecaaGreatDoor
open Go.Den

/-! # The document's look at standings -/
theorem twin_e {now : PSSafe} (h : llen now.1 ≤ 1000) : ref08_Twin_t now = some now := by
  unfold ref08_Twin_t
  rw [cnd_pos _ _ (by rw [Bool.true_and]; exact room_le (by omega))]
  rfl

theorem same_refl {a : PSSafe} (h : llen a.1 ≤ 1000) : ref08_Same_t (a, a) = some true := by
  unfold ref08_Same_t
  rw [cnd_neg _ _ (by simp)]
  refine iter_allQ (l := a.1) (fun r : Option Bool => r = some true) (fun _ _ => True) (some false) (some true) (by unfold llen at h; unfold maxLen; omega) (fun i w h0 hi hw => ?_) (fun i hi => by (try simp only); rw [cnd_neg _ _ (decide_eq_false hi)]) (fun _ => rfl) (fun hh => absurd (fun _ _ _ => trivial) hh)
  try simp only
  rw [cnd_pos _ _ (decide_eq_true hi), elimO_eq _ _ hw, elimO_eq _ _ hw, cnd_neg _ _ (by simp)]
  exact .inl ⟨trivial, rfl⟩

theorem refShown8_e {now : PSSafe} (hl : llen now.1 ≤ 1000) : ref08_Shown_t now = some (now.1.map (·.1)) := by
  have hn := llen_nonneg now.1
  unfold ref08_Shown_t
  refine iter_up (fun z : List Int × Int => z.2) (llen now.1) (fun z => llen z.1 = z.2 ∧ ∀ j, 0 ≤ j → j < z.2 → idx z.1 j = idx (now.1.map (·.1)) j) (fun r => r = some (now.1.map (·.1))) (by omega) (by simp) hn ⟨rfl, fun j j0 j1 => absurd j1 (by simp only; omega)⟩ (fun z hI i0 i1 => ?_) (fun z hI hz => ?_)
  · obtain ⟨out, i⟩ := z
    obtain ⟨hlen, hj⟩ := hI
    simp only at i0 i1 hlen hj
    obtain ⟨x, hx, _⟩ := idx_get i0 i1
    try simp only
    rw [cnd_pos _ _ (decide_eq_true i1), elimO_eq _ _ hx, cnd_pos _ _ (room_snoc (by omega)), wr_i64 (i + 1) (by omega) (by omega)]
    refine ⟨rfl, by (try simp only); rw [llen_snoc]; omega, fun j j0 j1 => ?_⟩
    simp only at j1 ⊢
    by_cases e : j = i
    · subst e
      rw [idx_map, hx, ← hlen, idx_snoc]; rfl
    · rw [idx_append j0, if_pos (by omega)]
      exact hj j j0 (by omega)
  · obtain ⟨out, i⟩ := z
    obtain ⟨hlen, hj⟩ := hI
    simp only at hz hlen hj
    try simp only
    rw [cnd_neg _ _ (decide_eq_false (by omega))]
    show some out = _
    rw [idx_ext (m := now.1.map (·.1)) (by rw [llen_map]; omega) fun j j0 j1 => hj j j0 (by omega)]

theorem refMay8_e {s : PSSite} {now : PSSafe} (h : SOK s) (hl : llen now.1 ≤ 1000) : ∃ r, ref08_May_t (s, now) = some r ∧ (r = true ↔ MayP s now) := by
  have hsl : (now.1.map (·.1)).length ≤ maxLen := by
    have := llen_map (l := now.1) (f := fun x => x.1)
    unfold llen at this hl; unfold maxLen; omega
  unfold ref08_May_t
  rw [elimO_eq _ _ (refShown8_e hl)]
  by_cases c : llen now.1 = llen s.2.1 ∧ 0 ≤ now.2.1 ∧ now.2.1 ≤ 1048576
  · rw [cnd_neg _ _ (by
      simp only [llen_map, Bool.or_eq_false_iff, Bool.not_eq_false', beq_iff_eq, decide_eq_false_iff_not]
      exact ⟨⟨c.1, by omega⟩, by omega⟩), elimO_eq _ _ (flashes_e hsl), cnt4_all]
    cases cf : flashB (now.1.map (·.1)) with
    | true => exact ⟨true, rfl, fun _ => ⟨⟨c.1, c.2.1, c.2.2⟩, .inl cf⟩, fun _ => rfl⟩
    | false =>
      obtain ⟨r, r1, r2⟩ := refMeet8_e (l := now.1.map (·.1)) h (by rw [llen_map]; exact c.1)
      rw [cnd_neg _ _ rfl, elimO_eq _ _ r1]
      refine ⟨!r, rfl, ?_⟩
      rw [Bool.not_eq_true']
      refine ⟨fun hr => ⟨⟨c.1, c.2.1, c.2.2⟩, .inr fun hm => by rw [r2.2 hm] at hr; cases hr⟩, fun hm => ?_⟩
      cases hr : r with
      | false => rfl
      | true =>
        rcases hm.ok with h1 | h1
        · rw [cf] at h1; cases h1
        · exact absurd (r2.1 hr) h1
  · rw [cnd_pos _ _ (by
      simp only [llen_map, Bool.or_eq_true, Bool.not_eq_true', beq_eq_false_iff_ne, ne_eq, decide_eq_true_eq]
      omega)]
    exact ⟨false, rfl, fun h => (by cases h), fun hm => absurd ⟨hm.st.n, hm.st.lo, hm.st.hi⟩ c⟩

end Go.Proofs.YtdgiapeofmlecaaGreatDoor
