/- Part of a proof: plain readings of Go functions, their contracts, or plain facts of them. -/
import Derived.Test.YtcflbakgpoecaaaDoorSafW
namespace Go.Proofs.YtcflbakgpoecaaaDoor
open Go.Den

/-! # Stepping on -/
theorem behind_loop2 {s : PSSite} {ws : List PSSeen} {l : List Int} {A : Type} {bad : A} {F : Int × List PSSeen → Step (Int × List PSSeen) A} (P : A → Prop) (h : SOK s) (hw : llen ws = llen s.2.1) (hl : llen l = llen s.2.1)
    (hF : ∀ i out g w a y, 0 ≤ i → i < llen ws → idx s.2.1 i = some g → idx out i = some w → idx l i = some a → y = nxt w a → F (i, out) = .next (wr .i64 (i + 1), lset out i y)) (hK : ∃ r, F (llen ws, List.zipWith nxt ws l) = .done r ∧ P r) : P (iter bad F lots (0, ws)) := by
  have n2 := h.n2
  refine iter_up (fun z : Int × List PSSeen => z.1) (llen ws) (fun z => llen z.2 = llen ws ∧ (∀ j, 0 ≤ j → j < z.1 → idx z.2 j = idx (List.zipWith nxt ws l) j) ∧ ∀ j, z.1 ≤ j → idx z.2 j = idx ws j) P (by omega) (by simp) (llen_nonneg ws) ⟨rfl, fun j j0 j1 => absurd j1 (by simp only; omega), fun j _ => rfl⟩ (fun z hI i0 i1 => ?_) (fun z hI hz => ?_)
  · obtain ⟨i, out⟩ := z
    obtain ⟨hlen, hj, hk⟩ := hI
    simp only at i0 i1 hlen hj hk
    obtain ⟨g, hg, _⟩ := idx_get (l := s.2.1) i0 (by omega)
    obtain ⟨w, hw', _⟩ := idx_get (l := ws) i0 i1
    obtain ⟨a, ha, _⟩ := idx_get (l := l) i0 (by omega)
    rw [hF i out g w a _ i0 i1 hg (by rw [hk i (by omega)]; exact hw') ha rfl, wr_i64 (i + 1) (by omega) (by omega)]
    refine ⟨rfl, by (try simp only); rw [llen_lset]; exact hlen, fun j j0 j1 => ?_, fun j hij => ?_⟩
    · simp only at j1 ⊢
      rw [idx_lset i0 (by omega)]
      split
      · rename_i e; rw [e, idx_zipWith hw' ha]
      · exact hj j j0 (by omega)
    · simp only at hij ⊢
      rw [idx_lset i0 (by omega), if_neg (by omega)]
      exact hk j (by omega)
  · obtain ⟨i, out⟩ := z
    obtain ⟨hlen, hj, _⟩ := hI
    simp only at hz hlen hj
    subst hz
    have : out = List.zipWith nxt ws l := idx_ext (by rw [llen_zipWith (by rw [hw, hl])]; exact hlen) fun j j0 j1 => hj j j0 (by omega)
    rw [this]
    obtain ⟨r, hr, hp⟩ := hK
    rw [hr]; exact hp

theorem twin_e {now : PSSafe} (h : llen now.1 ≤ 1000) : ref08_Twin_t now = some now := by
  unfold ref08_Twin_t
  rw [cnd_pos _ _ (by rw [Bool.true_and]; exact room_le (by omega))]
  rfl

theorem same_refl {a : PSSafe} (h : llen a.1 ≤ 1000) : ref08_Same_t (a, a) = some true := by
  unfold ref08_Same_t
  rw [cnd_neg _ _ (by simp)]
  refine iter_allQ (l := a.1) (fun r : Option Bool => r = some true) (fun _ _ => True) (some false) (some true) (by unfold llen at h; unfold maxLen; omega) (fun i w h0 hi hw => ?_) (fun i hi => by (try simp only); rw [cnd_neg _ _ (decide_eq_false hi)]) (fun _ => rfl) (fun hh => absurd (fun _ _ _ => trivial) hh)
  try simp only
  rw [cnd_pos _ _ (decide_eq_true hi), elimO_eq _ _ hw, elimO_eq _ _ hw, cnd_neg _ _ (by simp)]
  exact .inl ⟨trivial, rfl⟩

theorem refShown8_e {now : PSSafe} (hl : llen now.1 ≤ 1000) : ref08_Shown_t now = some (now.1.map (·.1)) := by
  have hn := llen_nonneg now.1
  unfold ref08_Shown_t
  refine iter_up (fun z : List Int × Int => z.2) (llen now.1) (fun z => llen z.1 = z.2 ∧ ∀ j, 0 ≤ j → j < z.2 → idx z.1 j = idx (now.1.map (·.1)) j) (fun r => r = some (now.1.map (·.1))) (by omega) (by simp) hn ⟨rfl, fun j j0 j1 => absurd j1 (by simp only; omega)⟩ (fun z hI i0 i1 => ?_) (fun z hI hz => ?_)
  · obtain ⟨out, i⟩ := z
    obtain ⟨hlen, hj⟩ := hI
    simp only at i0 i1 hlen hj
    obtain ⟨x, hx, _⟩ := idx_get i0 i1
    try simp only
    rw [cnd_pos _ _ (decide_eq_true i1), elimO_eq _ _ hx, cnd_pos _ _ (room_snoc (by omega)), wr_i64 (i + 1) (by omega) (by omega)]
    refine ⟨rfl, by (try simp only); rw [llen_snoc]; omega, fun j j0 j1 => ?_⟩
    simp only at j1 ⊢
    by_cases e : j = i
    · subst e
      rw [idx_map, hx, ← hlen, idx_snoc]; rfl
    · rw [idx_append j0, if_pos (by omega)]
      exact hj j j0 (by omega)
  · obtain ⟨out, i⟩ := z
    obtain ⟨hlen, hj⟩ := hI
    simp only at hz hlen hj
    try simp only
    rw [cnd_neg _ _ (decide_eq_false (by omega))]
    show some out = _
    rw [idx_ext (m := now.1.map (·.1)) (by rw [llen_map]; omega) fun j j0 j1 => hj j j0 (by omega)]

theorem refMay8_e {s : PSSite} {now : PSSafe} (h : SOK s) (hl : llen now.1 ≤ 1000) : ∃ r, ref08_May_t (s, now) = some r ∧ (r = true ↔ MayP s now) := by
  have hsl : (now.1.map (·.1)).length ≤ maxLen := by
    have := llen_map (l := now.1) (f := fun x => x.1)
    unfold llen at this hl; unfold maxLen; omega
  unfold ref08_May_t
  rw [elimO_eq _ _ (refShown8_e hl)]
  by_cases c : llen now.1 = llen s.2.1 ∧ 0 ≤ now.2.1 ∧ now.2.1 ≤ 1048576
  · rw [cnd_neg _ _ (by
      simp only [llen_map, Bool.or_eq_false_iff, Bool.not_eq_false', beq_iff_eq, decide_eq_false_iff_not]
      exact ⟨⟨c.1, by omega⟩, by omega⟩), elimO_eq _ _ (flashes_e hsl), cnt4_all]
    cases cf : flashB (now.1.map (·.1)) with
    | true => exact ⟨true, rfl, fun _ => ⟨⟨c.1, c.2.1, c.2.2⟩, .inl cf⟩, fun _ => rfl⟩
    | false =>
      obtain ⟨r, r1, r2⟩ := refMeet8_e (l := now.1.map (·.1)) h (by rw [llen_map]; exact c.1)
      rw [cnd_neg _ _ rfl, elimO_eq _ _ r1]
      refine ⟨!r, rfl, ?_⟩
      rw [Bool.not_eq_true']
      refine ⟨fun hr => ⟨⟨c.1, c.2.1, c.2.2⟩, .inr fun hm => by rw [r2.2 hm] at hr; cases hr⟩, fun hm => ?_⟩
      cases hr : r with
      | false => rfl
      | true =>
        rcases hm.ok with h1 | h1
        · rw [cf] at h1; cases h1
        · exact absurd (r2.1 hr) h1
  · rw [cnd_pos _ _ (by
      simp only [llen_map, Bool.or_eq_true, Bool.not_eq_true', beq_eq_false_iff_ne, ne_eq, decide_eq_true_eq]
      omega)]
    exact ⟨false, rfl, fun h => (by cases h), fun hm => absurd ⟨hm.st.n, hm.st.lo, hm.st.hi⟩ c⟩

theorem refFirst8_e {s : PSSite} {e : Int} (hok : e = 0 → SOK s) (h : ref05_Check_t s = some e) : ref08_First_t s = some (if e ≠ 0 then (([], (0, false)), e) else (firstV s, 0)) := by
  unfold ref08_First_t
  rw [elimO_eq _ _ h]
  by_cases h0 : e = 0
  · subst h0; rw [cnd_neg _ _ (by rfl), if_neg (by simp), elimO_eq _ _ (refStart8_e (hok rfl))]
  · rw [cnd_pos _ _ (by simp [h0]), if_pos h0]
theorem refGreatest8_e {s : PSSite} {e : Int} (hok : e = 0 → SOK s) (h : ref05_Check_t s = some e) : ref08_Greatest_t s = some (if e ≠ 0 then (0, e) else (grt s, 0)) := by
  unfold ref08_Greatest_t
  rw [elimO_eq _ _ h]
  by_cases h0 : e = 0
  · subst h0; rw [cnd_neg _ _ (by rfl), if_neg (by simp), elimO_eq _ _ (refGreat8_e (hok rfl))]
  · rw [cnd_pos _ _ (by simp [h0]), if_pos h0]

open Classical in
noncomputable def safeNextR (e : Int) (s : PSSite) (now : PSSafe) (l : List Int) : PSSafe × Int × Int :=
  if e ≠ 0 then (([], (0, false)), (0, e)) else if ¬ MayP s now then (([], (0, false)), (0, 8)) else
  if faultV s now l ≠ 0 then (now, (faultV s now l, 0)) else (behindV s now l, (0, 0))

theorem refNext8_e {s : PSSite} {now : PSSafe} {l : List Int} {e : Int} (hok : e = 0 → SOK s) (h : ref05_Check_t s = some e) (hw : llen now.1 ≤ 1000) (hl : l.length ≤ maxLen) : ref08_Next_t (s, (now, l)) = some (safeNextR e s now l) := by
  unfold ref08_Next_t safeNextR
  rw [elimO_eq _ _ h]
  by_cases h0 : e = 0
  · subst h0
    have hk := hok rfl
    obtain ⟨r, r1, r2⟩ := refMay8_e hk hw
    rw [cnd_neg _ _ (by rfl), if_neg (by simp), elimO_eq _ _ r1]
    by_cases c : MayP s now
    · rw [cnd_neg _ _ (by rw [r2.2 c]; rfl), if_neg (by simpa using c), elimO_eq _ _ (refFault8_e hk c.st.n hl)]
      by_cases c2 : faultV s now l = 0
      · rw [cnd_neg _ _ (by simp [c2]), if_neg (by simp [c2]), elimO_eq _ _ (refBehind8_e hk c.st (fault_len c2))]
      · rw [cnd_pos _ _ (by simp [c2]), if_pos c2, elimO_eq _ _ (twin_e hw)]
    · have : r = false := by
        cases hr : r with
        | false => rfl
        | true => exact absurd (r2.1 hr) c
      rw [cnd_pos _ _ (by rw [this]; rfl), if_pos c]
  · rw [cnd_pos _ _ (by simp [h0]), if_pos h0]

theorem tail_e {a3 a4 : PSSafe × Int} {a5 a6 : Int × Int} {c n1 n2 : PSSafe} {f e : Int} {nx : PSSafe × Int × Int} (h34 : a3 = a4) (h56 : a5 = a6) (hnx : nx = (c, (f, e))) (hn : n1 = n2) (l3 : llen a3.1.1 ≤ 1000) (lc : llen c.1 ≤ 1000) (ln : llen n1.1 ≤ 1000) :
    joinPt (fun x9 : Bool × Unit × PSSafe =>
(iter none (fun x10 : Int × Unit × PSSafe =>
(cnd (decide (x10.1 < (llen x10.2.2.1)))
(elimO (idx x10.2.2.1 x10.1) (.done none) (fun _ =>
(elimO (idx x10.2.2.1 x10.1) (.done none) (fun _ =>
(.next ((wr .i64 (x10.1 + 1)), ((), ((lset x10.2.2.1 x10.1 (77, (0, 0))), x10.2.2.2))))))))
(.done (cnd x9.1
(elimO (ref08_Same_t (n1, n2)) none (fun x11 =>
(some x11)))
(some false))))) lots (0, ((), x9.2.2)))) (fun k =>
(cnd (a3.2 == a4.2)
(elimO (ref08_Same_t (a3.1, a4.1)) none (fun x9 =>
(cnd ((((x9 && (a5.2 == a6.2)) && (a5.1 == a6.1)) && (e == nx.2.2)) && (f == nx.2.1))
(elimO (ref08_Same_t (c, nx.1)) none (fun x10 =>
(k (x10, ((), c)))))
(k (false, ((), c))))))
(k (false, ((), c))))) = some true := by
  subst h34 h56 hnx hn
  rw [joinPt_app, cnd_pos _ _ (by simp), elimO_eq _ _ (same_refl l3), cnd_pos _ _ (by simp), elimO_eq _ _ (same_refl lc)]
  refine iter_up (fun z : Int × Unit × PSSafe => z.1) (llen c.1) (fun z => llen z.2.2.1 = llen c.1) (fun r => r = some true) (by omega) (by simp) (llen_nonneg c.1) rfl (fun z hI i0 i1 => ?_) (fun z hI hz => ?_)
  · obtain ⟨i, u, o, r⟩ := z
    simp only at hI i0 i1
    obtain ⟨w, hw, _⟩ := idx_get (l := o) i0 (by omega)
    try simp only
    rw [cnd_pos _ _ (decide_eq_true (by omega)), elimO_eq _ _ hw, elimO_eq _ _ hw, wr_i64 (i + 1) (by omega) (by omega)]
    exact ⟨rfl, by (try simp only); rw [llen_lset]; exact hI⟩
  · obtain ⟨i, u, o, r⟩ := z
    simp only at hI hz
    try simp only
    rw [cnd_neg _ _ (decide_eq_false (by omega)), cnd_pos _ _ rfl, elimO_eq _ _ (same_refl ln)]
    exact rfl

theorem safeSteps_law (x : PSSite × PSSafe × List Int) (hf : FitsAll [SSite, SSafe, U8s] x) : law08_SafeSteps_t x = some true := by
  obtain ⟨s, now, l⟩ := x
  have hs : SFits s := sfits hf.1
  unfold law08_SafeSteps_t
  obtain ⟨g, hg⟩ := great_s s hs
  rw [elimO_eq _ _ hg, cnd_if]
  split
  · rfl
  rename_i hcond
  simp only [Bool.or_eq_true, decide_eq_true_eq, not_or, Int.not_lt] at hcond
  obtain ⟨⟨_, hw⟩, hl100⟩ := hcond
  have hw : llen now.1 ≤ 1000 := by omega
  have hl : l.length ≤ maxLen := by unfold llen at hl100; unfold maxLen; omega
  obtain ⟨e, h2, h3⟩ := check_s hs
  have h4 : ref05_Check_t s = some e := by rw [refCheck_eq hs]; exact h2
  have hok : e = 0 → SOK s := fun h => sok hs (check_ok h3 h)
  have l3 : llen (if e ≠ 0 then ((([] : List PSSeen), ((0 : Int), false)), e) else (firstV s, 0)).1.1 ≤ 1000 := by
    split
    · simp [llen]
    · rename_i hh
      have hk := hok (Decidable.not_not.1 hh)
      have := hk.n2
      have := (first_ok hk).n
      simp only; omega
  rw [elimO_eq _ _ (twin_e hw), elimO_eq _ _ (safeFirst_e hok h2), elimO_eq _ _ (refFirst8_e hok h4), elimO_eq _ _ (safeGreatest_e hok h2), elimO_eq _ _ (refGreatest8_e hok h4), elimO_eq _ _ h2]
  have hN := refNext8_e (l := l) hok h4 hw hl
  unfold safeNextR at hN
  by_cases h0 : e = 0
  · subst h0
    have hk := hok rfl
    rw [if_neg (by simp)] at hN
    obtain ⟨r, r1, r2⟩ := may_e hk hw
    rw [cnd_neg _ _ (by rfl), elimO_eq _ _ r1]
    by_cases c : MayP s now
    · rw [if_neg (by simpa using c)] at hN
      rw [cnd_neg _ _ (by rw [r2.2 c]; rfl), elimO_eq _ _ (fault_e hk c.st.n hl)]
      by_cases c2 : faultV s now l = 0
      · rw [if_neg (by simp [c2])] at hN
        have hbl := (behind_ok hk c.st (fault_len c2)).n
        have hn2 := hk.n2
        rw [cnd_neg _ _ (by simp [c2]), elimO_eq _ _ (clone_seen_e hw), elimO_eq _ _ (flash_e hl)]
        refine behind_loop2 (s := s) (ws := now.1) (l := l) (fun r => r = some true) hk c.st.n (fault_len c2) (fun i out g w a y i0 i1 hg hw ha hy => ?_) ⟨_, cnd_neg _ _ (decide_eq_false (by simp)), ?_⟩
        · try simp only
          rw [cnd_pos _ _ (decide_eq_true (by omega)), elimO_eq _ _ hw, elimO_eq _ _ hw, elimO_eq _ _ hg, elimO_eq _ _ ha, letK_app, elimO_eq _ _ hw, elimO_eq _ _ hw, nxt_eq, hy]
        · have s1 := c.st.lo
          have s2 := c.st.hi
          have g1 := (grt_is hk).lo
          have g2 := (grt_is hk).hi
          have hz : llen (List.zipWith nxt now.1 l) ≤ 1000 := by
            have : llen (behindV s now l).1 = llen (List.zipWith nxt now.1 l) := rfl
            omega
          unfold behindV at hN
          by_cases c3 : flashB l = true
          · rw [if_pos c3] at hN
            rw [cnd_pos _ _ c3, elimO_eq _ _ (grt_e hk), elimO_eq _ _ hN]
            exact tail_e (c := (List.zipWith nxt now.1 l, (grt s, flashB l))) rfl rfl rfl rfl l3 hz hw
          · rw [if_neg c3] at hN
            rw [cnd_neg _ _ (Bool.eq_false_iff.2 c3)]
            by_cases c4 : now.2.2 = true
            · rw [if_pos c4] at hN
              rw [cnd_pos _ _ c4, elimO_eq _ _ (grt_e hk), elimO_eq _ _ hN]
              exact tail_e (c := (List.zipWith nxt now.1 l, (gmax 0 (wr .i64 (grt s - 1)), flashB l))) rfl rfl (by rw [gmax_eq, wr_i64 (grt s - 1) (by omega) (by omega)]) rfl l3 hz hw
            · rw [if_neg c4] at hN
              rw [cnd_neg _ _ (Bool.eq_false_iff.2 c4), elimO_eq _ _ hN]
              exact tail_e (c := (List.zipWith nxt now.1 l, (gmax 0 (wr .i64 (now.2.1 - 1)), flashB l))) rfl rfl (by rw [gmax_eq, wr_i64 (now.2.1 - 1) (by omega) (by omega)]) rfl l3 hz hw
      · rw [if_pos c2] at hN
        rw [cnd_pos _ _ (by simp [c2]), elimO_eq _ _ (clone_seen_e hw), elimO_eq _ _ hN]
        exact tail_e (c := now) rfl rfl rfl rfl l3 hw hw
    · have : r = false := by
        cases hr : r with
        | false => rfl
        | true => exact absurd (r2.1 hr) c
      rw [if_pos c] at hN
      rw [cnd_pos _ _ (by rw [this]; rfl), elimO_eq _ _ hN]
      exact tail_e (c := ([], (0, false))) rfl rfl rfl rfl l3 (by simp [llen]) hw
  · rw [if_pos h0] at hN
    rw [cnd_pos _ _ (by simp [h0]), elimO_eq _ _ hN]
    exact tail_e (c := ([], (0, false))) rfl rfl rfl rfl l3 (by simp [llen]) hw

end Go.Proofs.YtcflbakgpoecaaaDoor
