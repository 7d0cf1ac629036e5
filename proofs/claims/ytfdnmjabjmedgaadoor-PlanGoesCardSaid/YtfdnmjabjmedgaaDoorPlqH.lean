/- Part of a proof: plain readings of Go functions, their contracts, or plain facts of them. -/
import Derived.Test.YtfdnmjabjmedgaaDoorPlqF
namespace Go.Proofs.YtfdnmjabjmedgaaDoor
open Go.Den

/-! # Which standings go on -/
def StandOK (f : Bool) (st : Int) (w : PSSeen) : Prop := if f = true then w.1 = 4 else (1 ≤ w.1 ∧ w.1 ≤ 3) ∧ (0 < st → w.1 = 1)
structure GoesP (s : PSSite) (now : PSSafe) : Prop where
  may : MayP s now
  all : ∀ w ∈ now.1, StandOK now.2.2 now.2.1 w

theorem stand_t {f : Bool} {st : Int} {w : PSSeen} {A : Type} (x y : A) : cnd f (cnd (!(w.1 == 4)) x y) (cnd (((decide (w.1 < 1)) || (decide (3 < w.1))) || ((decide (0 < st)) && (!(w.1 == 1)))) x y) = @ite _ (StandOK f st w) (Classical.propDecidable _) y x := by
  unfold StandOK
  cases f with
  | true =>
    rw [cnd_pos _ _ rfl]
    by_cases c : w.1 = 4
    · rw [cnd_neg _ _ (by simp [c]), if_pos (by simpa using c)]
    · rw [cnd_pos _ _ (by simpa using c), if_neg (by simpa using c)]
  | false =>
    rw [cnd_neg (b := false) _ _ rfl]
    by_cases c : (1 ≤ w.1 ∧ w.1 ≤ 3) ∧ (0 < st → w.1 = 1)
    · rw [cnd_neg _ _ (by
        apply Bool.eq_false_iff.2
        intro hh
        simp only [Bool.or_eq_true, Bool.and_eq_true, decide_eq_true_eq, Bool.not_eq_true', beq_eq_false_iff_ne, ne_eq] at hh
        rcases hh with hh | hh
        · omega
        · exact hh.2 (c.2 hh.1)), if_pos (by simpa using c)]
    · rw [cnd_pos _ _ (by
        simp only [Bool.or_eq_true, Bool.and_eq_true, decide_eq_true_eq, Bool.not_eq_true', beq_eq_false_iff_ne, ne_eq]
        apply Classical.byContradiction
        intro hh
        simp only [not_or, Int.not_lt] at hh
        exact c ⟨⟨hh.1.1, hh.1.2⟩, fun h0 => Classical.byContradiction fun hn => hh.2 ⟨h0, hn⟩⟩), if_neg (by simpa using c)]

theorem goes_e {s : PSSite} {now : PSSafe} (h : SOK s) (hs : site_Check_t s = some 0) (hw : llen now.1 ≤ 1000) : ∃ r, gate_goes_t (s, now) = some r ∧ (r = true ↔ GoesP s now) := by
  have n2 := h.n2
  have hn := llen_nonneg now.1
  have hwm : now.1.length ≤ maxLen := by unfold llen at hw; unfold maxLen; omega
  unfold gate_goes_t
  by_cases c : llen now.1 = llen s.2.1
  · rw [cnd_neg _ _ (by simpa using c), cnd_pos _ _ (make_ok hn (by omega)), joinPt_app]
    refine iter_up (fun z : Int × List Int => z.1) (llen now.1) (fun z => llen z.2 = llen now.1) (fun r : Option Bool => ∃ b, r = some b ∧ (b = true ↔ GoesP s now)) (by omega) (by simp) hn (llen_lrep hn _) (fun z hI i0 i1 => ?_) (fun z hI hz => ?_)
    · obtain ⟨i, out⟩ := z
      simp only at hI i0 i1
      obtain ⟨y, hy, _⟩ := idx_get (l := out) i0 (by omega)
      try simp only
      rw [cnd_pos _ _ (decide_eq_true (by rw [llen_lrep hn]; exact i1)), elimO_eq _ _ hy, elimO_eq _ _ hy, wr_i64 (i + 1) (by omega) (by omega)]
      exact ⟨rfl, by (try simp only); rw [llen_lset]; exact hI⟩
    · obtain ⟨i, out⟩ := z
      simp only at hI hz
      try simp only
      have hol : out.length ≤ maxLen := by unfold llen at hI hw; unfold maxLen; omega
      rw [cnd_neg _ _ (decide_eq_false (by rw [llen_lrep hn]; omega)), elimO_eq _ _ (safeNext_e (e := 0) (fun _ => h) hs hw hol)]
      show ∃ b, _ = some b ∧ _
      by_cases cm : MayP s now
      · have h0 : (safeNextR 0 s now out).2.2 = 0 := by
          unfold safeNextR
          rw [if_neg (by simp), if_neg (by simpa using cm)]
          split <;> rfl
        rw [cnd_neg _ _ (by rw [h0]; rfl)]
        have conv : (∀ w ∈ now.1, StandOK now.2.2 now.2.1 w) ↔ (∀ (i : Int) w, idx now.1 i = some w → StandOK now.2.2 now.2.1 w) := ⟨fun h i a ha => h a (idx_some_iff ha).2.2, fun h a ha => by obtain ⟨i, hi⟩ := mem_idx ha; exact h i a hi⟩
        refine iter_allQ (l := now.1) (fun r : Option Bool => ∃ b, r = some b ∧ (b = true ↔ GoesP s now)) (fun _ w => StandOK now.2.2 now.2.1 w) (some false) (some true) hwm (fun i w h0 hi hw' => ?_) (fun i hi => by (try simp only); rw [cnd_neg _ _ (decide_eq_false hi)]; rfl) (fun hh => ⟨true, rfl, fun _ => ⟨cm, conv.2 hh⟩, fun _ => rfl⟩) (fun hh => ⟨false, rfl, fun h => (by cases h), fun hg => absurd (conv.1 hg.all) hh⟩)
        try simp only
        rw [cnd_pos _ _ (decide_eq_true hi), elimO_eq _ _ hw', stand_t, decide_eq_true h0]
        by_cases cs : StandOK now.2.2 now.2.1 w
        · rw [if_pos cs]; exact .inl ⟨cs, rfl⟩
        · rw [if_neg cs]; exact .inr ⟨cs, rfl⟩
      · have h0 : (safeNextR 0 s now out).2.2 = 8 := by
          unfold safeNextR
          rw [if_neg (by simp), if_pos cm]
        rw [cnd_pos _ _ (by rw [h0]; rfl)]
        exact ⟨false, rfl, fun h => (by cases h), fun hg => absurd hg.may cm⟩
  · rw [cnd_pos _ _ (by simpa using c)]
    exact ⟨false, rfl, fun h => (by cases h), fun hg => absurd hg.may.st.n c⟩

open Classical in
noncomputable def askedR (e : Int) (s : PSSite) (now : PSSafe) : Int := if e ≠ 0 then e else if GoesP s now then 0 else 8
open Classical in
noncomputable def admitR (e : Int) (s : PSSite) (now : PSSafe) (asks : List Int) : List Int × Int :=
  if e ≠ 0 then ([], e) else if ¬ GoesP s now then ([], 8) else if llen asks ≠ llen s.2.1 then ([], 90) else (admitV s now asks, 0)
open Classical in
noncomputable def openR (e : Int) (s : PSSite) (now : PSSafe) (g : Int) : Bool × Int :=
  if e ≠ 0 then (false, e) else if ¬ GoesP s now then (false, 8) else if g < 0 ∨ llen s.2.1 ≤ g then (false, 2) else (el (admitV s now (lset (lrep (llen s.2.1) 1) g 2)) g == 2, 0)

theorem asked_e {s : PSSite} {now : PSSafe} {e : Int} (hok : e = 0 → SOK s) (hs : site_Check_t s = some e) (hw : llen now.1 ≤ 1000) : gate_asked_t (s, now) = some (askedR e s now) := by
  unfold gate_asked_t askedR
  rw [elimO_eq _ _ hs]
  by_cases h0 : e = 0
  · subst h0
    rw [cnd_neg _ _ (by rfl), if_neg (by simp)]
    obtain ⟨r, r1, r2⟩ := goes_e (hok rfl) hs hw
    rw [elimO_eq _ _ r1]
    by_cases c : GoesP s now
    · rw [cnd_neg _ _ (by rw [r2.2 c]; rfl), if_pos c]
    · have : r = false := by
        cases hr : r with
        | false => rfl
        | true => exact absurd (r2.1 hr) c
      rw [cnd_pos _ _ (by rw [this]; rfl), if_neg c]
  · rw [cnd_pos _ _ (by simp [h0]), if_pos h0]

theorem gAdmit_e {s : PSSite} {now : PSSafe} {asks : List Int} {e : Int} (hok : e = 0 → SOK s) (hs : site_Check_t s = some e) (hw : llen now.1 ≤ 1000) : gate_Admit_t (s, (now, asks)) = some (admitR e s now asks) := by
  unfold gate_Admit_t admitR
  rw [elimO_eq _ _ (asked_e hok hs hw)]
  unfold askedR
  by_cases h0 : e = 0
  · subst h0
    have hk := hok rfl
    rw [if_neg (show ¬ ((0 : Int) ≠ 0) by simp), if_neg (show ¬ ((0 : Int) ≠ 0) by simp)]
    by_cases c : GoesP s now
    · rw [if_pos c, cnd_neg _ _ (by rfl), if_neg (show ¬ ¬ GoesP s now by simpa using c)]
      by_cases c2 : llen asks = llen s.2.1
      · rw [cnd_neg _ _ (by simpa using c2), if_neg (by simpa using c2), elimO_eq _ _ (admit_e hk c.may.st.n c2)]
      · rw [cnd_pos _ _ (by simpa using c2), if_pos c2]
    · rw [if_neg c, cnd_pos _ _ (by rfl), if_pos c]
  · rw [if_pos h0, if_pos h0, cnd_pos _ _ (by simp [h0])]

theorem llen_pass (s : PSSite) (ws : List PSSeen) (asks : List Int) : ∀ (k : Nat) (i : Int) (out : List Int), llen (pass s ws asks k i out) = llen out
  | 0, i, out => rfl
  | k + 1, i, out => by
    rw [pass, llen_pass s ws asks k]
    split
    · rw [llen_lset]
    · rfl
theorem llen_admit {s : PSSite} {now : PSSafe} {asks : List Int} (hw : llen now.1 = llen s.2.1) (hl : llen asks = llen s.2.1) : llen (admitV s now asks) = llen s.2.1 := by
  have := llen_nonneg asks
  unfold admitV
  split
  · exact hl
  · split
    · rw [llen_lrep this, hl]
    · rw [llen_pass, base_len hw hl]

end Go.Proofs.YtfdnmjabjmedgaaDoor
