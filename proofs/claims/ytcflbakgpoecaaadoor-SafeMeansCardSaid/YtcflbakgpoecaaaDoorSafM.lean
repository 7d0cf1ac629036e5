/- Part of a proof: plain readings of Go functions, their contracts, or plain facts of them. -/
import Derived.Test.YtcflbakgpoecaaaDoorSafB
namespace Go.Proofs.YtcflbakgpoecaaaDoor
open Go.Den

/-! # What a safe trace means -/
theorem chk_states (s : PSSite) : ∀ (t : List (List Int)) (now : PSSafe) (i : Int), 0 ≤ i → chk s now i t = (-1, 0) → ∃ st : Nat → PSSafe, st 0 = now ∧ ∀ k l, t[k]? = some l → faultV s (st k) l = 0 ∧ st (k + 1) = behindV s (st k) l
  | [], now, i, _, _ => ⟨fun _ => now, rfl, fun k l h => by simp at h⟩
  | a :: r, now, i, hi, h => by
    rw [chk] at h
    by_cases c : faultV s now a ≠ 0
    · rw [if_pos c] at h
      have := congrArg Prod.fst h
      simp only at this; omega
    · rw [if_neg c] at h
      obtain ⟨st, h0, hs⟩ := chk_states s r _ _ (by omega) h
      refine ⟨fun | 0 => now | k + 1 => st k, rfl, fun k l hk => ?_⟩
      match k with
      | 0 =>
        have : a = l := by simpa using hk
        subst this
        exact ⟨Decidable.not_not.1 c, h0⟩
      | k + 1 => exact hs k l (by simpa using hk)

def cell (t : List (List Int)) (k g : Int) : Int := el (el t k) g

/-- what no fault says of a line that is not all flash -/
structure Calm (s : PSSite) (now : PSSafe) (l : List Int) : Prop where
  no4 : 4 ∉ l
  red : now.2.2 = true → ∀ a ∈ l, a = 1
  may : now.2.2 = false → mayL s.2.1 now.1 l = 0
  meet : ¬ MeetP s l
  close : ¬ CloseP s now.1 l

theorem calm {s : PSSite} {now : PSSafe} {l : List Int} (h : faultV s now l = 0) (hfl : flashB l = false) : Calm s now l := by
  unfold faultV at h
  rw [if_neg (show ¬ llen l ≠ llen s.2.1 by rw [fault_len h]; simp), if_neg (by rw [hfl]; simp)] at h
  by_cases c1 : 4 ∈ l
  · rw [if_pos c1] at h; cases h
  rw [if_neg c1] at h
  by_cases c2 : (now.2.2 = true ∨ 0 < now.2.1) ∧ ∃ a ∈ l, a ≠ 1
  · rw [if_pos c2] at h; cases h
  rw [if_neg c2] at h
  by_cases c3 : now.2.2 = false ∧ mayL s.2.1 now.1 l ≠ 0
  · rw [if_pos c3] at h; exact absurd h c3.2
  rw [if_neg c3] at h
  by_cases c4 : MeetP s l
  · rw [if_pos c4] at h; cases h
  rw [if_neg c4] at h
  by_cases c5 : CloseP s now.1 l
  · rw [if_pos c5] at h; cases h
  exact ⟨c1, fun hh a ha => Classical.byContradiction fun hne => c2 ⟨.inl hh, a, ha, hne⟩, fun hh => Classical.byContradiction fun hne => c3 ⟨hh, hne⟩, c4, c5⟩

theorem mayL_at : ∀ {gs : List PSGroup} {ws : List PSSeen} {l : List Int}, mayL gs ws l = 0 → ∀ (i : Nat) g w a, gs[i]? = some g → ws[i]? = some w → l[i]? = some a → lamp_May (g, (w, a)) = 0
  | [], _, _, _, i, g, w, a, h, _, _ => by simp at h
  | _ :: _, [], _, _, i, g, w, a, _, h, _ => by simp at h
  | _ :: _, _ :: _, [], _, i, g, w, a, _, _, h => by simp at h
  | g0 :: gs, w0 :: ws, a0 :: as, hm, i, g, w, a, h1, h2, h3 => by
    rw [mayL] at hm
    by_cases c : lamp_May (g0, (w0, a0)) ≠ 0
    · rw [if_pos c] at hm; exact absurd hm c
    · rw [if_neg c] at hm
      match i with
      | 0 =>
        simp only [List.getElem?_cons_zero, Option.some.injEq] at h1 h2 h3
        subst h1 h2 h3
        exact Decidable.not_not.1 c
      | i + 1 => exact mayL_at hm i g w a (by simpa using h1) (by simpa using h2) (by simpa using h3)

theorem may_says {g : PSGroup} {w : PSSeen} {a : Int} (h : lamp_May (g, (w, a)) = 0) : (1 ≤ w.1 ∧ w.1 ≤ 3) ∧ (1 ≤ a ∧ a ≤ 3) ∧ (a ≠ w.1 → (w.1 = 1 ∧ a = 2) ∨ (w.1 = 2 ∧ a = 3) ∨ (w.1 = 3 ∧ a = 1)) ∧ (w.1 = 2 → a = 3 → g.2.1 ≤ lamp_kept w.2.1) ∧ (w.1 = 3 → (a = 3 ↔ lamp_kept w.2.1 < g.2.2)) := by
  unfold lamp_May lamp_goes lamp_Follows at h
  simp only [letK] at h
  generalize lamp_kept w.2.1 = n at h ⊢
  by_cases c1 : 1 ≤ w.1 ∧ w.1 ≤ 3
  · rw [cnd_neg _ _ (by simp [c1])] at h
    by_cases c2 : 1 ≤ a ∧ a ≤ 3
    · rw [cnd_neg _ _ (by simp [c2])] at h
      have w3 : w.1 = 1 ∨ w.1 = 2 ∨ w.1 = 3 := by omega
      have a3 : a = 1 ∨ a = 2 ∨ a = 3 := by omega
      refine ⟨c1, c2, ?_⟩
      by_cases d1 : n < g.2.1 <;> by_cases d2 : g.2.2 ≤ n
      all_goals rcases w3 with hw | hw | hw <;> rcases a3 with ha | ha | ha <;> simp [hw, ha, d1, d2, cnd] at h ⊢ <;> omega
    · rw [cnd_pos _ _ (by
        simp only [Bool.not_eq_true', Bool.and_eq_false_iff, decide_eq_false_iff_not]; omega)] at h
      cases h
  · rw [cnd_pos _ _ (by
      simp only [Bool.not_eq_true', Bool.and_eq_false_iff, decide_eq_false_iff_not]; omega)] at h
    cases h

theorem kept_id {n : Int} (h0 : 0 ≤ n) (h1 : n ≤ 1048576) : lamp_kept n = n := by
  unfold lamp_kept; rw [gmin_eq, gmax_eq]; omega
theorem more_id {n : Int} (h0 : 0 ≤ n) (h1 : n < 1048576) : lamp_more n = n + 1 := by
  unfold lamp_more
  simp only [letK]
  rw [kept_id h0 (by omega), wr_i64 (n + 1) (by omega) (by omega), kept_id (by omega) (by omega)]
theorem more_le {n : Int} (h0 : 0 ≤ n) (h1 : n ≤ 1048576) : 0 ≤ lamp_more n ∧ lamp_more n ≤ n + 1 ∧ lamp_more n ≤ 1048576 := by
  unfold lamp_more
  simp only [letK]
  rw [kept_id h0 h1, wr_i64 (n + 1) (by omega) (by omega)]
  unfold lamp_kept; rw [gmin_eq, gmax_eq]; omega

theorem nxt_same {w : PSSeen} {a : Int} (h : a = w.1) : nxt w a = (a, (lamp_more w.2.1, if a = 2 then 0 else lamp_more w.2.2)) := by
  unfold nxt lamp_Next
  simp only [letK]
  rw [cnd_pos (b := a == w.1) _ _ (by simpa using h), cnd_if]
  by_cases c : a = 2
  · rw [if_pos (by simpa using c), if_pos c]
  · rw [if_neg (by simpa using c), if_neg c]
theorem nxt_new {w : PSSeen} {a : Int} (h : a ≠ w.1) : nxt w a = (a, (1, if a = 2 then 0 else lamp_more w.2.2)) := by
  unfold nxt lamp_Next
  simp only [letK]
  rw [cnd_neg (b := a == w.1) _ _ (by simpa using h), cnd_if]
  by_cases c : a = 2
  · rw [if_pos (by simpa using c), if_pos c]
  · rw [if_neg (by simpa using c), if_neg c]

structure WInv (s : PSSite) (t : List (List Int)) (k g : Int) (w : PSSeen) : Prop where
  first : k = 0 → w.1 = 1
  cur : 0 < k → w.1 = cell t (k - 1) g
  green : ∀ b, 1 ≤ b → b ≤ k → cell t (k - b) g = 2 → w.2.2 ≤ b - 1
  lo : 0 ≤ w.2.1
  hi : w.2.1 ≤ k + 1
  lo2 : 0 ≤ w.2.2
  hi2 : w.2.2 ≤ 1048576
  run : w.1 ≠ 1 → 1 ≤ w.2.1 ∧ w.2.1 ≤ k ∧ (∀ j, 1 ≤ j → j ≤ w.2.1 → cell t (k - j) g = w.1) ∧ (w.2.1 = k ∨ cell t (k - w.2.1 - 1) g ≠ w.1)
  yel : w.1 = 3 → w.2.1 ≤ (el s.2.1 g).2.2

structure Inv (s : PSSite) (t : List (List Int)) (k : Int) (now : PSSafe) : Prop where
  st : StOK s now
  fl : 0 < k → now.2.2 = flashB (el t (k - 1))
  fl0 : k = 0 → now.2.2 = false
  w : ∀ g w, idx now.1 g = some w → WInv s t k g w

theorem winv_step {s : PSSite} {t : List (List Int)} {k g a : Int} {w : PSSeen} (hk0 : 0 ≤ k) (hk1 : k ≤ 300) (h : WInv s t k g w) (ha : cell t k g = a) (hy1 : 1 ≤ (el s.2.1 g).2.2) (hy : a = 3 → w.1 = 3 → w.2.1 < (el s.2.1 g).2.2) : WInv s t (k + 1) g (nxt w a) := by
  have h1 := h.lo; have h2 := h.hi; have h3 := h.lo2; have h4 := h.hi2
  have m2 := more_le h3 h4
  have e1 : k + 1 - 1 = k := by omega
  have hn : nxt w a = (a, (if a = w.1 then w.2.1 + 1 else 1, if a = 2 then 0 else lamp_more w.2.2)) := by
    by_cases c : a = w.1
    · rw [nxt_same c, if_pos c, more_id h1 (by omega)]
    · rw [nxt_new c, if_neg c]
  rw [hn]
  refine ⟨fun hh => by omega, fun _ => by rw [e1, ha], fun b b0 b1 hb => ?_, ?_, ?_, ?_, ?_, fun hne => ?_, fun h3 => ?_⟩
  · simp only
    by_cases c : b = 1
    · subst c
      rw [e1, ha] at hb
      rw [if_pos hb]; omega
    · have := h.green (b - 1) (by omega) (by omega) (by rw [show k - (b - 1) = k + 1 - b by omega]; exact hb)
      split <;> omega
  · simp only; split <;> omega
  · simp only; split <;> omega
  · simp only; split <;> omega
  · simp only; split <;> omega
  · simp only at hne ⊢
    by_cases c : a = w.1
    · rw [if_pos c]
      obtain ⟨r1, r2, r3, r4⟩ := h.run (by rw [← c]; exact hne)
      refine ⟨by omega, by omega, fun j j0 j1 => ?_, ?_⟩
      · by_cases cj : j = 1
        · subst cj; rw [e1, ha]
        · rw [c, ← r3 (j - 1) (by omega) (by omega), show k + 1 - j = k - (j - 1) by omega]
      · rcases r4 with r4 | r4
        · exact .inl (by omega)
        · exact .inr (by rw [show k + 1 - (w.2.1 + 1) - 1 = k - w.2.1 - 1 by omega, c]; exact r4)
    · rw [if_neg c]
      refine ⟨by omega, by omega, fun j j0 j1 => ?_, ?_⟩
      · rw [show j = 1 by omega, e1, ha]
      · by_cases ck : k = 0
        · exact .inl (by omega)
        · exact .inr (by rw [e1, ← h.cur (by omega)]; exact fun hh => c hh.symm)
  · simp only at h3 ⊢
    split
    · rename_i c
      have := hy h3 (by rw [← c]; exact h3)
      omega
    · exact hy1

theorem red_flash {l : List Int} (h : flashB l = true) {g : Int} (g0 : 0 ≤ g) (g1 : g < llen l) : el l g = 4 := by
  unfold flashB at h
  rw [decide_eq_true_eq] at h
  exact h _ (idx_some_iff (idx_el g0 g1)).2.2

theorem may_at {s : PSSite} {now : PSSafe} {l : List Int} (h : SOK s) (hw : llen now.1 = llen s.2.1) (hl : llen l = llen s.2.1) (hm : mayL s.2.1 now.1 l = 0) {g : Int} {w : PSSeen} (hg : idx now.1 g = some w) : lamp_May (el s.2.1 g, (w, el l g)) = 0 := by
  obtain ⟨g0, g1, _⟩ := idx_some_iff hg
  have e1 := idx_el (l := s.2.1) g0 (by omega)
  have e2 := idx_el (l := l) g0 (by omega)
  rw [idx_nat g0] at e1 e2 hg
  exact mayL_at hm g.toNat _ w _ e1 hg e2

theorem inv_step {s : PSSite} {t : List (List Int)} {k : Int} {now : PSSafe} (hk : SOK s) (k0 : 0 ≤ k) (k1 : k < llen t) (hk1 : k ≤ 300) (h : Inv s t k now) (hf : faultV s now (el t k) = 0) : Inv s t (k + 1) (behindV s now (el t k)) := by
  have hl := fault_len hf
  have e1 : k + 1 - 1 = k := by omega
  refine ⟨behind_ok hk h.st hl, fun _ => by rw [e1]; rfl, fun hh => by omega, fun g w' hw' => ?_⟩
  have hbn := (behind_ok hk h.st hl).n
  obtain ⟨g0, g1, _⟩ := idx_some_iff hw'
  obtain ⟨w, hw, _⟩ := idx_get (l := now.1) g0 (by have := h.st.n; omega)
  have ha := idx_el (l := el t k) g0 (by omega)
  have : w' = nxt w (el (el t k) g) := by
    have h1 := idx_zipWith (f := nxt) hw ha
    have h2 : idx (List.zipWith nxt now.1 (el t k)) g = some w' := hw'
    rw [h1] at h2
    exact (Option.some.inj h2).symm
  rw [this]
  have hgr := (hk.grp g _ (idx_el g0 (by omega))).2
  refine winv_step k0 hk1 (h.w g w hw) rfl hgr.1 (fun h3 hw3 => ?_)
  cases hfl : flashB (el t k) with
  | true =>
    have := red_flash hfl g0 (by omega)
    omega
  | false =>
    have hc := calm hf hfl
    have hnf : now.2.2 = false := by
      apply Bool.eq_false_iff.2
      intro hh
      have := hc.red hh _ (idx_some_iff ha).2.2
      omega
    have hm := may_says (may_at hk h.st.n hl (hc.may hnf) hw)
    have := (hm.2.2.2.2 hw3).1 h3
    rwa [kept_id (h.w g w hw).lo (by have := (h.w g w hw).hi; omega)] at this

theorem inv_first {s : PSSite} {t : List (List Int)} (hk : SOK s) : Inv s t 0 (firstV s) := by
  refine ⟨first_ok hk, fun h => by omega, fun _ => rfl, fun g w hw => ?_⟩
  obtain ⟨g0, g1, hm⟩ := idx_some_iff hw
  have : w = seen0 := (List.mem_replicate.1 hm).2
  subst this
  exact ⟨fun _ => rfl, fun h => by omega, fun b b0 b1 => by omega, by decide, by decide, by decide, by decide, fun h => absurd rfl h, fun h => by cases h⟩

/-- a trace without fault, tick by tick -/
structure Clean (s : PSSite) (t : List (List Int)) : Prop where
  len : llen t ≤ 300
  at_ : ∀ k, 0 ≤ k → k < llen t → ∃ now, Inv s t k now ∧ faultV s now (el t k) = 0

theorem clean_of {s : PSSite} {t : List (List Int)} (hk : SOK s) (hl : llen t ≤ 300) (h : chk s (firstV s) 0 t = (-1, 0)) : Clean s t := by
  obtain ⟨st, h0, hs⟩ := chk_states s t _ 0 (by omega) h
  have key : ∀ k : Nat, (k : Int) ≤ llen t → Inv s t k (st k) := by
    intro k
    induction k with
    | zero => intro _; rw [h0]; exact inv_first hk
    | succ k ih =>
      intro hkl
      have hx := idx_el (l := t) (i := (k : Int)) (by omega) (by omega)
      have hx' : t[k]? = some (el t k) := by rw [idx_nat (by omega), Int.toNat_natCast] at hx; exact hx
      obtain ⟨f1, f2⟩ := hs k _ hx'
      rw [f2]
      have := inv_step hk (by omega) (by omega) (by omega) (ih (by omega)) f1
      rwa [show ((k + 1 : Nat) : Int) = (k : Int) + 1 by omega]
  refine ⟨hl, fun k k0 k1 => ⟨st k.toNat, ?_, ?_⟩⟩
  · have := key k.toNat (by omega)
    rwa [Int.toNat_of_nonneg k0] at this
  · have hx := idx_el (l := t) k0 k1
    rw [idx_nat k0] at hx
    exact (hs _ _ hx).1

/-! ## the law's own look -/
section
variable {s : PSSite} {t : List (List Int)}

theorem Clean.len_at (hc : Clean s t) {k : Int} (k0 : 0 ≤ k) (k1 : k < llen t) : llen (el t k) = llen s.2.1 := by
  obtain ⟨now, _, hf⟩ := hc.at_ k k0 k1
  exact fault_len hf

theorem all_e (hk : SOK s) (hc : Clean s t) {k : Int} (k0 : 0 ≤ k) (k1 : k < llen t) : law08_all_t (t, k) = some (flashB (el t k)) := by
  have hl := hc.len_at k0 k1
  have n1 := hk.n1
  unfold law08_all_t
  rw [elimO_eq _ _ (idx_el k0 k1), elimO_eq _ _ (idx_el (l := el t k) (i := 0) (by omega) (by omega))]
  congr 1
  apply Bool.eq_iff_iff.2
  rw [beq_iff_eq]
  refine ⟨fun h4 => ?_, fun h => red_flash h (by omega) (by omega)⟩
  obtain ⟨now, hI, hf⟩ := hc.at_ k k0 k1
  cases hfl : flashB (el t k) with
  | true => rfl
  | false =>
    have hm := (idx_some_iff (idx_el (l := el t k) (i := 0) (by omega) (by omega))).2.2
    rw [h4] at hm
    exact absurd hm (calm hf hfl).no4

theorem lasted_e (hc : Clean s t) {m g c : Int} (g0 : 0 ≤ g) (g1 : g < llen s.2.1) (m0 : 0 ≤ m) (m1 : m < llen t) (c1 : 1 ≤ c) (c2 : c ≤ m + 1) (hr : ∀ j, 1 ≤ j → j ≤ c → cell t (m + 1 - j) g = cell t m g) (he : c = m + 1 ∨ cell t (m + 1 - c - 1) g ≠ cell t m g) : law08_lasted_t (t, (m, g)) = some c := by
  have hlen := hc.len
  have hcell : ∀ k, 0 ≤ k → k < llen t → idx (el t k) g = some (cell t k g) := fun k k0 k1 => idx_el g0 (by rw [hc.len_at k0 k1]; exact g1)
  unfold law08_lasted_t
  refine iter_up (fun x : Int => x) c (fun x => 1 ≤ x) (fun r => r = some c) (by omega) (by omega) c1 (Int.le_refl _) (fun x hI x0 x1 => ?_) (fun x hI hx => ?_)
  · have x1 : x < c := x1
    have x0 : 1 ≤ x := hI
    try simp only
    rw [wr_i64 (m - x) (by omega) (by omega), cnd_pos _ _ (decide_eq_true (by omega)), elimO_eq _ _ (idx_el (l := t) (i := m - x) (by omega) (by omega)), elimO_eq _ _ (hcell (m - x) (by omega) (by omega)), elimO_eq _ _ (idx_el m0 m1), elimO_eq _ _ (hcell m m0 m1), cnd_pos _ _ (by
      rw [beq_iff_eq, ← hr (x + 1) (by omega) (by omega), show m + 1 - (x + 1) = m - x by omega]), wr_i64 (x + 1) (by omega) (by omega)]
    exact ⟨rfl, by (try simp only); omega⟩
  · have hx : x = c := hx
    subst hx
    try simp only
    rw [wr_i64 (m - x) (by omega) (by omega)]
    by_cases c3 : 0 ≤ m - x
    · rw [cnd_pos _ _ (decide_eq_true c3), elimO_eq _ _ (idx_el (l := t) (i := m - x) (by omega) (by omega)), elimO_eq _ _ (hcell (m - x) (by omega) (by omega)), elimO_eq _ _ (idx_el m0 m1), elimO_eq _ _ (hcell m m0 m1)]
      have : cell t (m - x) g ≠ cell t m g := by
        rcases he with he | he
        · omega
        · rwa [show m + 1 - x - 1 = m - x by omega] at he
      rw [cnd_neg _ _ (by simpa using this)]
      exact rfl
    · rw [cnd_neg _ _ (decide_eq_false c3)]
      exact rfl

theorem groups_e (hk : SOK s) (hc : Clean s t) {k g : Int} (k0 : 0 ≤ k) (k1 : k < llen t) (g0 : 0 ≤ g) (g1 : g < llen s.2.1) (hfl : flashB (el t k) = false) {x2 : Int} (hx2 : x2 = cell t k g) : (iter none (fun x5 : Int =>
(cnd (decide (x5 < (llen s.2.1)))
(elimO (idx s.2.2.1 g) (.done none) (fun x6 =>
(cnd ((bitop Go.BinOp.and Go.IntKind.u32 (shrop Go.IntKind.u32 x6 (wr .u64 x5)) 1) == 0)
(.next (wr .i64 (x5 + 1)))
(joinPt (fun x7 =>
(cnd x7
(.done (some false))
(joinPt (fun x8 =>
(iter (.done none) (fun x9 : Int =>
(joinPt (fun _ : Bool =>
(elimO (law08_all_t (t, (wr .i64 (k - x9)))) (.done (.done none)) (fun x11 =>
(cnd x11
(.done (.next (wr .i64 (x5 + 1))))
(elimO (idx t (wr .i64 (k - x9))) (.done (.done none)) (fun x12 =>
(elimO (idx x12 x5) (.done (.done none)) (fun x13 =>
(cnd (x13 == 2)
(.done (.done (some false)))
(.next (wr .i64 (x9 + 1)))))))))))) (fun k' =>
(cnd x8
(elimO (idx s.2.2.2.1 x5) (.done (.done none)) (fun x10 =>
(elimO (idx x10 g) (.done (.done none)) (fun x11 =>
(cnd ((decide (x9 ≤ x11)) && (decide (0 ≤ (wr .i64 (k - x9)))))
(k' true)
(.done (.next (wr .i64 (x5 + 1)))))))))
(.done (.next (wr .i64 (x5 + 1)))))))) lots 1)) (fun k' =>
(cnd (x2 == 2)
(cnd (k == 0)
(k' true)
(elimO (idx t (wr .i64 (k - 1))) (.done none) (fun x8 =>
(elimO (idx x8 g) (.done none) (fun x9 =>
(k' (!(x9 == 2))))))))
(k' false)))))) (fun k' =>
(cnd (!(x2 == 1))
(elimO (idx t k) (.done none) (fun x7 =>
(elimO (idx x7 x5) (.done none) (fun x8 =>
(k' (!(x8 == 1)))))))
(k' false)))))))
(.done (some true)))) lots 0) = some true := by
  have n2 := hk.n2
  have hlen := hc.len
  have hcell : ∀ k o, 0 ≤ k → k < llen t → 0 ≤ o → o < llen s.2.1 → idx (el t k) o = some (cell t k o) := fun k o k0 k1 o0 o1 => idx_el o0 (by rw [hc.len_at k0 k1]; exact o1)
  obtain ⟨now, hI, hf⟩ := hc.at_ k k0 k1
  have hcalm := calm hf hfl
  have hu := idx_el (l := s.2.2.1) g0 (by rw [hk.la]; exact g1)
  refine iter_up (fun x : Int => x) (llen s.2.1) (fun _ => True) (fun r => r = some true) (by omega) (by omega) (by omega) trivial (fun o _ o0 o1 => ?_) (fun o _ ho => ?_)
  · have o0 : 0 ≤ o := o0
    have o1 : o < llen s.2.1 := o1
    try simp only
    rw [cnd_pos _ _ (decide_eq_true o1), elimO_eq _ _ hu, wr_u64i o0 (by omega), andBit0 (hk.us g _ hu) o0 (by omega)]
    have hap : bitI (el s.2.2.1 g) o = apartB s g o := rfl
    rw [hap, wr_i64 (o + 1) (by omega) (by omega)]
    cases hab : apartB s g o with
    | false => rw [cnd_pos (b := !false) _ _ rfl]; exact ⟨rfl, trivial⟩
    | true =>
      rw [cnd_neg (b := !true) _ _ rfl, joinPt_app]
      obtain ⟨p1, p2, _⟩ := hk.pair g o g0 g1 o0 o1
      have hne := (p2 hab).1
      have hab' : apartB s o g = true := by rw [← p1]; exact hab
      have hred : x2 ≠ 1 → cell t k o = 1 := fun h1 => Classical.byContradiction fun h2 => hcalm.meet (by
        rcases Int.lt_or_gt_of_ne hne with hlt | hlt
        · exact ⟨o, g, _, _, hlt, hcell k o k0 k1 o0 o1, hcell k g k0 k1 g0 g1, h2, by rw [← hx2]; exact h1, hab'⟩
        · exact ⟨g, o, _, _, hlt, hcell k g k0 k1 g0 g1, hcell k o k0 k1 o0 o1, by rw [← hx2]; exact h1, h2, hab⟩)
      have key : ∀ {X : Step Int (Option Bool)}, X = .next (o + 1) → UpRound (fun x : Int => x) (fun _ => True) (fun r : Option Bool => r = some true) o X := fun hX => by rw [hX]; exact ⟨rfl, trivial⟩
      apply key
      have inner : ∀ x8 : Bool, (x8 = true → x2 = 2 ∧ (k = 0 ∨ cell t (k - 1) g ≠ 2)) → (iter (.done none) (fun x9 : Int =>
(joinPt (fun _ : Bool =>
(elimO (law08_all_t (t, (wr .i64 (k - x9)))) (.done (.done none)) (fun x11 =>
(cnd x11
(.done (.next (o + 1)))
(elimO (idx t (wr .i64 (k - x9))) (.done (.done none)) (fun x12 =>
(elimO (idx x12 o) (.done (.done none)) (fun x13 =>
(cnd (x13 == 2)
(.done (.done (some false)))
(.next (wr .i64 (x9 + 1)))))))))))) (fun k' =>
(cnd x8
(elimO (idx s.2.2.2.1 o) (.done (.done none)) (fun x10 =>
(elimO (idx x10 g) (.done (.done none)) (fun x11 =>
(cnd ((decide (x9 ≤ x11)) && (decide (0 ≤ (wr .i64 (k - x9)))))
(k' true)
(.done (.next (o + 1))))))))
(.done (.next (o + 1))))))) lots 1) = (.next (o + 1) : Step Int (Option Bool)) := by
        intro x8 h8
        cases x8 with
        | false => exact iter_done (by rw [joinPt_app, cnd_neg _ _ rfl])
        | true =>
          obtain ⟨h2, hprev⟩ := h8 rfl
          have hrow := idx_el (l := s.2.2.2.1) o0 (by rw [hk.lb]; exact o1)
          have hb := idx_el (l := el s.2.2.2.1 o) g0 (by rw [hk.rows o _ hrow]; exact g1)
          have hbw := betw_ok hk o0 o1 g0 g1
          have hnow := idx_el (l := now.1) o0 (by rw [hI.st.n]; exact o1)
          have hnowg := idx_el (l := now.1) g0 (by rw [hI.st.n]; exact g1)
          have hfar : betw s o g ≤ (el now.1 o).2.2 := by
            apply Classical.byContradiction
            intro hlt
            refine hcalm.close ⟨g, o, _, _, hnowg, ?_, ?_, hnow, hab', by omega⟩
            · rw [← h2, hx2]; exact hcell k g k0 k1 g0 g1
            · rcases hprev with hp | hp
              · rw [(hI.w g _ hnowg).first hp]; decide
              · by_cases ck : k = 0
                · rw [(hI.w g _ hnowg).first ck]; decide
                · rw [(hI.w g _ hnowg).cur (by omega)]; exact hp
          refine iter_up (fun x : Int => x) (k + 1) (fun x => 1 ≤ x) (fun r : Step Int (Option Bool) => r = .next (o + 1)) (by omega) (by omega) (by omega) (Int.le_refl _) (fun b hb1 b0 b1 => ?_) (fun b hb1 hbe => ?_)
          · have hb1 : 1 ≤ b := hb1
            have b1 : b < k + 1 := b1
            try simp only
            rw [joinPt_app, cnd_pos _ _ rfl, elimO_eq _ _ hrow, elimO_eq _ _ hb, wr_i64 (k - b) (by omega) (by omega)]
            by_cases cb : b ≤ betw s o g
            · rw [cnd_pos _ _ (by rw [Bool.and_eq_true]; exact ⟨decide_eq_true cb, decide_eq_true (by omega)⟩), elimO_eq _ _ (all_e hk hc (k := k - b) (by omega) (by omega))]
              cases flashB (el t (k - b)) with
              | true => exact rfl
              | false =>
                rw [cnd_neg _ _ rfl, elimO_eq _ _ (idx_el (l := t) (i := k - b) (by omega) (by omega)), elimO_eq _ _ (hcell (k - b) o (by omega) (by omega) o0 o1), cnd_neg _ _ (by
                  rw [beq_eq_false_iff_ne]
                  intro hh
                  have := (hI.w o _ hnow).green b hb1 (by omega) hh
                  omega), wr_i64 (b + 1) (by omega) (by omega)]
                exact ⟨rfl, by (try simp only); omega⟩
            · rw [cnd_neg _ _ (by
                apply Bool.eq_false_iff.2
                intro hh
                rw [Bool.and_eq_true] at hh
                exact cb (of_decide_eq_true hh.1))]
              exact rfl
          · have hbe : b = k + 1 := hbe
            try simp only
            rw [joinPt_app, cnd_pos _ _ rfl, elimO_eq _ _ hrow, elimO_eq _ _ hb, wr_i64 (k - b) (by omega) (by omega), cnd_neg _ _ (by
              apply Bool.eq_false_iff.2
              intro hh
              rw [Bool.and_eq_true] at hh
              have := of_decide_eq_true hh.2
              omega)]
            exact rfl
      have rest : ∀ x7 : Bool, x7 = false → cnd x7 (.done (some false)) (joinPt (fun x8 =>
(iter (.done none) (fun x9 : Int =>
(joinPt (fun _ : Bool =>
(elimO (law08_all_t (t, (wr .i64 (k - x9)))) (.done (.done none)) (fun x11 =>
(cnd x11
(.done (.next (o + 1)))
(elimO (idx t (wr .i64 (k - x9))) (.done (.done none)) (fun x12 =>
(elimO (idx x12 o) (.done (.done none)) (fun x13 =>
(cnd (x13 == 2)
(.done (.done (some false)))
(.next (wr .i64 (x9 + 1)))))))))))) (fun k' =>
(cnd x8
(elimO (idx s.2.2.2.1 o) (.done (.done none)) (fun x10 =>
(elimO (idx x10 g) (.done (.done none)) (fun x11 =>
(cnd ((decide (x9 ≤ x11)) && (decide (0 ≤ (wr .i64 (k - x9)))))
(k' true)
(.done (.next (o + 1))))))))
(.done (.next (o + 1))))))) lots 1)) (fun k' =>
(cnd (x2 == 2)
(cnd (k == 0)
(k' true)
(elimO (idx t (wr .i64 (k - 1))) (.done none) (fun x8 =>
(elimO (idx x8 g) (.done none) (fun x9 =>
(k' (!(x9 == 2))))))))
(k' false)))) = (.next (o + 1) : Step Int (Option Bool)) := by
        intro x7 h7
        rw [cnd_neg _ _ h7, joinPt_app]
        by_cases c2 : x2 = 2
        · rw [cnd_pos _ _ (by simpa using c2)]
          by_cases ck : k = 0
          · rw [cnd_pos _ _ (by simpa using ck)]
            exact inner true fun _ => ⟨c2, .inl ck⟩
          · rw [cnd_neg _ _ (by simpa using ck), wr_i64 (k - 1) (by omega) (by omega), elimO_eq _ _ (idx_el (l := t) (i := k - 1) (by omega) (by omega)), elimO_eq _ _ (hcell (k - 1) g (by omega) (by omega) g0 g1)]
            exact inner _ fun hh => ⟨c2, .inr (by simpa using hh)⟩
        · rw [cnd_neg _ _ (by simpa using c2)]
          exact inner false fun hh => by cases hh
      by_cases c1 : x2 = 1
      · rw [cnd_neg (b := !(x2 == 1)) _ _ (by simp [c1])]
        exact rest false rfl
      · rw [cnd_pos (b := !(x2 == 1)) _ _ (by simpa using c1), elimO_eq _ _ (idx_el k0 k1), elimO_eq _ _ (hcell k o k0 k1 o0 o1)]
        exact rest _ (by rw [hred c1]; rfl)
  · have ho : o = llen s.2.1 := ho
    try simp only
    rw [cnd_neg _ _ (decide_eq_false (by omega))]
    exact rfl

theorem holds_e (hk : SOK s) (hc : Clean s t) {k g : Int} (k0 : 0 ≤ k) (k1 : k < llen t) (g0 : 0 ≤ g) (g1 : g < llen s.2.1) : law08_holds_t (s, (t, (k, g))) = some true := by
  have n2 := hk.n2
  have hlen := hc.len
  have hcell : ∀ k, 0 ≤ k → k < llen t → idx (el t k) g = some (cell t k g) := fun k k0 k1 => idx_el g0 (by rw [hc.len_at k0 k1]; exact g1)
  obtain ⟨now, hI, hf⟩ := hc.at_ k k0 k1
  unfold law08_holds_t
  rw [elimO_eq _ _ (idx_el k0 k1), elimO_eq _ _ (hcell k k0 k1), elimO_eq _ _ (all_e hk hc k0 k1)]
  cases hfl : flashB (el t k) with
  | true =>
    rw [cnd_pos _ _ rfl]
    have : cell t k g = 4 := red_flash hfl g0 (by rw [hc.len_at k0 k1]; exact g1)
    rw [this]; rfl
  | false =>
    have hcalm := calm hf hfl
    have hnow := idx_el (l := now.1) g0 (by rw [hI.st.n]; exact g1)
    have hW := hI.w g _ hnow
    have hM : now.2.2 = false → _ := fun h => may_says (may_at hk hI.st.n (hc.len_at k0 k1) (hcalm.may h) hnow)
    have ha3 : 1 ≤ cell t k g ∧ cell t k g ≤ 3 := by
      cases h : now.2.2 with
      | true =>
        have := hcalm.red h _ (idx_some_iff (hcell k k0 k1)).2.2
        omega
      | false => exact (hM h).2.1
    rw [cnd_neg _ _ rfl, cnd_neg _ _ (by
      apply Bool.eq_false_iff.2
      intro hh
      simp only [Bool.and_eq_true, Bool.not_eq_true', beq_eq_false_iff_ne, ne_eq] at hh
      omega), joinPt_app, joinPt_app]
    simp only [groups_e hk hc k0 k1 g0 g1 hfl rfl]
    by_cases ck : 0 < k
    · rw [cnd_pos _ _ (decide_eq_true ck), wr_i64 (k - 1) (by omega) (by omega), elimO_eq _ _ (all_e hk hc (k := k - 1) (by omega) (by omega))]
      cases hpf : flashB (el t (k - 1)) with
      | true => exact rfl
      | false =>
        rw [cnd_pos (b := !false) _ _ rfl, elimO_eq _ _ (idx_el (l := t) (i := k - 1) (by omega) (by omega)), elimO_eq _ _ (hcell (k - 1) (by omega) (by omega))]
        by_cases cb : cell t (k - 1) g = cell t k g
        · rw [cnd_neg _ _ (by simpa using cb)]
        · rw [cnd_pos _ _ (by simpa using cb), elimO_eq _ _ (idx_el (l := t) (i := k - 1) (by omega) (by omega)), elimO_eq _ _ (hcell (k - 1) (by omega) (by omega)), joinPt_app]
          obtain ⟨q1, q2, q3, q4, q5⟩ := hM (by rw [hI.fl ck]; exact hpf)
          have hcur := hW.cur ck
          change (el now.1 g).1 = cell t (k - 1) g at hcur
          change cell t k g ≠ _ → _ at q3
          have hgr := idx_el (l := s.2.1) g0 g1
          have hlo := hW.lo
          have hhi := hW.hi
          rw [kept_id hlo (by omega)] at q4 q5
          have hlast : cell t (k - 1) g ≠ 1 → law08_lasted_t (t, (k - 1, g)) = some (el now.1 g).2.1 := fun hne => by
            obtain ⟨r1, r2, r3, r4⟩ := hW.run (by rw [hcur]; exact hne)
            refine lasted_e hc g0 g1 (by omega) (by omega) r1 (by omega) (fun j j0 j1 => ?_) ?_
            · rw [show k - 1 + 1 - j = k - j by omega, r3 j j0 j1, hcur]
            · rcases r4 with r4 | r4
              · exact .inl (by omega)
              · exact .inr (by rw [show k - 1 + 1 - (el now.1 g).2.1 - 1 = k - (el now.1 g).2.1 - 1 by omega, ← hcur]; exact r4)
          rcases q3 (by rw [hcur]; exact fun h => cb h.symm) with ⟨b1, a1⟩ | ⟨b1, a1⟩ | ⟨b1, a1⟩
          · have hb : cell t (k - 1) g = 1 := by rw [← hcur]; exact b1
            have ha : cell t k g = 2 := a1
            rw [hb, ha]; rfl
          · have hb : cell t (k - 1) g = 2 := by rw [← hcur]; exact b1
            have ha : cell t k g = 3 := a1
            have hl := hlast (by omega)
            rw [hb, ha, cnd_pos (b := (2 : Int) == 2) _ _ rfl, cnd_neg (b := !((3 : Int) == 3)) _ _ rfl, elimO_eq _ _ hl, elimO_eq _ _ hgr, cnd_neg _ _ (decide_eq_false (by have := q4 b1 ha; omega))]
            rfl
          · have hb : cell t (k - 1) g = 3 := by rw [← hcur]; exact b1
            have ha : cell t k g = 1 := a1
            have hl := hlast (by omega)
            have hy := hW.yel b1
            have hq := q5 b1
            have hyl := (hk.grp g _ hgr).2
            have h5 : (el now.1 g).2.1 = (el s.2.1 g).2.2 := by
              have hne : ¬ (cell t k g = 3) := by omega
              have := fun h => hne (hq.2 h)
              omega
            rw [hb, ha, cnd_neg (b := (3 : Int) == 2) _ _ rfl, cnd_pos (b := (3 : Int) == 3) _ _ rfl, cnd_neg (b := !((1 : Int) == 1)) _ _ rfl, elimO_eq _ _ hl, elimO_eq _ _ hgr]
            show cnd (!((el now.1 g).2.1 == gmax 1 (el s.2.1 g).2.2) || ((3 : Int) == 1 && !((1 : Int) == 2))) (some false) (some true) = some true
            rw [gmax_eq, h5, Int.max_eq_right (by omega), cnd_neg _ _ (by simp)]
    · rw [cnd_neg _ _ (decide_eq_false ck)]
      rfl

theorem means_e (hk : SOK s) (hc : Clean s t) : (iter none (fun x4 : Int =>
(cnd (decide (x4 < (llen t)))
(elimO (idx t x4) (.done none) (fun x5 =>
(cnd (!((llen x5) == (llen s.2.1)))
(.done (some false))
(iter (.done none) (fun x6 : Int =>
(cnd (decide (x6 < (llen s.2.1)))
(elimO (law08_holds_t (s, (t, (x4, x6)))) (.done (.done none)) (fun x7 =>
(cnd (!x7)
(.done (.done (some false)))
(.next (wr .i64 (x6 + 1))))))
(.done (.next (wr .i64 (x4 + 1)))))) lots 0))))
(.done (some true)))) lots 0) = some true := by
  have n1 := hk.n1
  have n2 := hk.n2
  have hlen := hc.len
  refine iter_up (fun x : Int => x) (llen t) (fun _ => True) (fun r => r = some true) (by omega) (by omega) (llen_nonneg t) trivial (fun k _ k0 k1 => ?_) (fun k _ hke => ?_)
  · have k0 : 0 ≤ k := k0
    have k1 : k < llen t := k1
    try simp only
    rw [cnd_pos _ _ (decide_eq_true k1), elimO_eq _ _ (idx_el k0 k1), cnd_neg _ _ (by simp [hc.len_at k0 k1])]
    refine iter_up (fun x : Int => x) (llen s.2.1) (fun _ => True) _ (by omega) (by omega) (by omega) trivial (fun g _ g0 g1 => ?_) (fun g _ hge => ?_)
    · have g0 : 0 ≤ g := g0
      have g1 : g < llen s.2.1 := g1
      try simp only
      rw [cnd_pos _ _ (decide_eq_true g1), elimO_eq _ _ (holds_e hk hc k0 k1 g0 g1), wr_i64 (g + 1) (by omega) (by omega)]
      exact ⟨rfl, trivial⟩
    · have hge : g = llen s.2.1 := hge
      try simp only
      rw [cnd_neg _ _ (decide_eq_false (by omega)), wr_i64 (k + 1) (by omega) (by omega)]
      exact ⟨rfl, trivial⟩
  · have hke : k = llen t := hke
    try simp only
    rw [cnd_neg _ _ (decide_eq_false (by omega))]
    exact rfl

end

theorem safeMeans_law (x : PSSite × List (List Int)) (hf : FitsAll [SSite, U8ss] x) : law08_SafeMeans_t x = some true := by
  obtain ⟨s, tr⟩ := x
  have hs : SFits s := sfits hf.1
  have ht : tr.length ≤ maxLen ∧ ∀ l ∈ tr, l.length ≤ maxLen := ⟨hf.2.1, fun l hl => (hf.2.2 l hl).1⟩
  unfold law08_SafeMeans_t
  rw [show law08_alive_t () = some true from rfl, elimO_eq _ _ rfl]
  obtain ⟨g, hg⟩ := great_s s hs
  rw [elimO_eq _ _ hg, cnd_if]
  split
  · rfl
  rename_i hcond
  simp only [Bool.or_eq_true, decide_eq_true_eq, not_or, Int.not_lt, Bool.not_true, Bool.false_eq_true, not_false_eq_true, and_true] at hcond
  obtain ⟨_, h300⟩ := hcond
  obtain ⟨e, h2, h3⟩ := check_s hs
  have hok : e = 0 → SOK s := fun h => sok hs (check_ok h3 h)
  rw [elimO_eq _ _ (safeCheck_e hok h2 ht.2)]
  unfold safeCheckR
  by_cases h0 : e = 0
  · subst h0
    have hk := hok rfl
    rw [if_neg (show ¬ ((0 : Int) ≠ 0) by simp), if_neg (show ¬ 4096 < llen tr by omega)]
    try simp only
    rw [cnd_neg (b := !((0 : Int) == 0)) _ _ rfl]
    rcases chk_shape s tr (firstV s) 0 (by omega) with hsh | ⟨g0, g1, _⟩
    · rw [hsh, cnd_neg _ _ (by rfl)]
      exact means_e hk (clean_of hk h300 hsh)
    · have hn1 : (chk s (firstV s) 0 tr).1 ≤ llen tr := by unfold llen; omega
      rw [cnd_pos _ _ (decide_eq_true g0), cnd_pos _ _ (by rw [Bool.and_eq_true]; exact ⟨decide_eq_true g0, decide_eq_true hn1⟩)]
      have htl : llen (ltake tr (chk s (firstV s) 0 tr).1) ≤ llen tr := by unfold llen ltake; rw [List.length_take]; omega
      refine means_e hk (clean_of hk (by omega) ?_)
      have := chk_take s tr (firstV s) 0 (chk s (firstV s) 0 tr).1.toNat (by omega)
      rw [if_neg (by omega)] at this
      exact this
  · rw [if_pos h0]
    try simp only
    rw [cnd_pos _ _ (by simp [h0])]
    rfl

end Go.Proofs.YtcflbakgpoecaaaDoor
