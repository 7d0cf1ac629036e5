/- Part of a proof: plain readings of Go functions, their contracts, or plain facts of them. -/
import Derived.Test.YtfdnmjabjmedgaaDoorPlqI
namespace Go.Proofs.YtfdnmjabjmedgaaDoor
open Go.Den

/-! # What a phase asks, tick by tick -/
def inP (s : PSSite) (p g : Int) : Bool := bitI (el s.2.2.2.2.1 p).1 g
def asksV (s : PSSite) (p : Int) : List Int := s.2.1.mapIdx fun i _ => if inP s p (i : Int) = true then 2 else 1
theorem llen_asks (s : PSSite) (p : Int) : llen (asksV s p) = llen s.2.1 := llen_mapIdx
theorem idx_asks {s : PSSite} {p i : Int} (i0 : 0 ≤ i) (i1 : i < llen s.2.1) : idx (asksV s p) i = some (if inP s p i = true then 2 else 1) := by
  unfold asksV
  rw [idx_mapIdx i0, idx_el i0 i1, Option.map_some, Int.toNat_of_nonneg i0]
theorem el_asks {s : PSSite} {p i : Int} (i0 : 0 ≤ i) (i1 : i < llen s.2.1) : el (asksV s p) i = if inP s p i = true then 2 else 1 := el_of (idx_asks i0 i1)
def fullP (s : PSSite) (now : PSSafe) (p : Int) : Prop := ∀ i, 0 ≤ i → i < llen s.2.1 → inP s p i = true → (el now.1 i).1 = 2
noncomputable def stepV (s : PSSite) (now : PSSafe) (p : Int) : PSSafe := behindV s now (admitV s now (asksV s p))

/-- what of a phase is needed here -/
structure PhP (s : PSSite) (p : Int) : Prop where
  apart : ∀ a b, 0 ≤ a → a < llen s.2.1 → inP s p a = true → inP s p b = true → apartB s a b = false
  one : ∃ a, 0 ≤ a ∧ a < llen s.2.1 ∧ inP s p a = true
  least : ∀ a, 0 ≤ a → a < llen s.2.1 → inP s p a = true → (el s.2.1 a).2.1 ≤ (el s.2.2.2.2.1 p).2.1

theorem php {s : PSSite} (hs : SFits s) (h : SiteOK s) {p : Int} (p0 : 0 ≤ p) (p1 : p < llen s.2.2.2.2.1) : PhP s p where
  apart := fun a b a0 a1 ha hb => by
    have hp := idx_el p0 p1
    have e := idx_el (l := s.2.2.1) a0 (by rw [h.shape.a]; exact a1)
    have := ((h.phased.1 p _ hp).bits a ha _ _ (idx_el a0 a1) e).2
    have hz := (inter_zero (hs.as _ (idx_some_iff e).2.2) (hs.ps _ (idx_some_iff hp).2.2).1).1 this
    apply Bool.eq_false_iff.2
    intro hab
    exact hz b hab hb
  one := by
    have hp := idx_el p0 p1
    have hu := (hs.ps _ (idx_some_iff hp).2.2).1
    obtain ⟨l0, l1, l2, _⟩ := low_spec hu (h.phased.1 p _ hp).ne
    obtain ⟨b0, b1⟩ := bit_group h.shape hu (h.phased.1 p _ hp).hi l2
    exact ⟨_, b0, b1, l2⟩
  least := fun a a0 a1 ha => by
    have hp := idx_el p0 p1
    have e := idx_el (l := s.2.2.1) a0 (by rw [h.shape.a]; exact a1)
    exact ((h.phased.1 p _ hp).bits a ha _ _ (idx_el a0 a1) e).1

/-- a standing without red to come, that is not flashed -/
structure Pl (s : PSSite) (now : PSSafe) : Prop where
  goes : GoesP s now
  st : now.2.1 = 0
  fl : now.2.2 = false

theorem asks_flash {s : PSSite} (h : SOK s) (p : Int) : flashB (asksV s p) = false := by
  have n1 := h.n1
  apply Bool.eq_false_iff.2
  intro hh
  have := red_flash0 hh (g := 0) (by omega) (by rw [llen_asks]; omega)
  rw [el_asks (by omega) (by omega)] at this
  split at this <;> omega

theorem out_pass {s : PSSite} {now : PSSafe} (h : SOK s) (hp : Pl s now) (p : Int) : admitV s now (asksV s p) = pass s now.1 (asksV s p) (llen (asksV s p)).toNat 0 (baseV s.2.1 now.1 (asksV s p)) := by
  unfold admitV
  rw [if_neg (by rw [asks_flash h]; simp), if_neg (by rw [hp.fl, hp.st]; simp)]

theorem out_inv {s : PSSite} {now : PSSafe} (h : SOK s) (hp : Pl s now) (p : Int) : PassInv s now.1 (asksV s p) (llen s.2.1) (admitV s now (asksV s p)) := by
  rw [out_pass h hp]; exact passInv h hp.goes (llen_asks s p) hp.fl

theorem out_flash {s : PSSite} {now : PSSafe} (h : SOK s) (hp : Pl s now) (p : Int) : flashB (admitV s now (asksV s p)) = false := by
  have n1 := h.n1
  have hI := out_inv h hp p
  apply Bool.eq_false_iff.2
  intro hh
  have := red_flash0 hh (g := 0) (by omega) (by rw [hI.len]; omega)
  have h1 := (pass_in hp.goes hp.fl hI (j := 0) (by omega) (by omega)).1
  omega

theorem pl_step {s : PSSite} {now : PSSafe} (h : SOK s) (hp : Pl s now) (p : Int) : Pl s (stepV s now p) where
  goes := (admit_free h hp.goes (llen_asks s p)).2
  st := by
    show (if flashB (admitV s now (asksV s p)) = true then grt s else if now.2.2 = true then max 0 (grt s - 1) else max 0 (now.2.1 - 1)) = 0
    rw [if_neg (by rw [out_flash h hp]; simp), if_neg (by rw [hp.fl]; simp), hp.st]; rfl
  fl := out_flash h hp p

theorem el_step {s : PSSite} {now : PSSafe} (hg : GoesP s now) (p : Int) {j : Int} (j0 : 0 ≤ j) (j1 : j < llen s.2.1) : el (stepV s now p).1 j = nxt (el now.1 j) (el (admitV s now (asksV s p)) j) := by
  have hw := hg.may.st.n
  have hl := llen_admit (s := s) (now := now) hw (llen_asks s p)
  exact el_of (idx_zipWith (idx_el j0 (by rw [hw]; exact j1)) (idx_el j0 (by rw [hl]; exact j1)))

theorem nxt_since (w : PSSeen) (a : Int) : (nxt w a).2.1 = if a = w.1 then lamp_more w.2.1 else 1 := by
  unfold nxt lamp_Next
  simp only [letK]
  by_cases c : a = w.1
  · rw [cnd_pos (b := a == w.1) _ _ (by simpa using c), if_pos c]
    cases (a == 2) <;> rfl
  · rw [cnd_neg (b := a == w.1) _ _ (by simpa using c), if_neg c]
    cases (a == 2) <;> rfl
theorem nxt_ended (w : PSSeen) (a : Int) : (nxt w a).2.2 = if a = 2 then 0 else lamp_more w.2.2 := by
  unfold nxt lamp_Next
  simp only [letK]
  by_cases d : a = 2
  · rw [if_pos d, cnd_pos (b := a == 2) _ _ (by simpa using d), cnd_pos (b := a == 2) _ _ (by simpa using d)]
    cases (a == w.1) <;> rfl
  · rw [if_neg d, cnd_neg (b := a == 2) _ _ (by simpa using d), cnd_neg (b := a == 2) _ _ (by simpa using d)]
    cases (a == w.1) <;> rfl

theorem kept_v (n : Int) : lamp_kept n = min (max n 0) 1048576 := by
  unfold lamp_kept; rw [gmin_eq, gmax_eq]
theorem more_v (n : Int) : lamp_more n = min (min (max n 0) 1048576 + 1) 1048576 := by
  unfold lamp_more
  simp only [letK, kept_v]
  rw [wr_i64 _ (by omega) (by omega)]
  omega

/-- one group's tick -/
structure GTick (g : PSGroup) (w : PSSeen) (a : Bool) (w' : PSSeen) : Prop where
  range : 1 ≤ w.1 ∧ w.1 ≤ 3
  red : w.1 = 1 → (w'.1 = 1 ∧ w'.2.2 = lamp_more w.2.2) ∨ (a = true ∧ w'.1 = 2 ∧ w'.2.1 = 1 ∧ w'.2.2 = 0)
  greenOn : w.1 = 2 → (a = true ∨ lamp_kept w.2.1 < g.2.1) → w'.1 = 2 ∧ w'.2.1 = lamp_more w.2.1 ∧ w'.2.2 = 0
  greenOff : w.1 = 2 → a = false → g.2.1 ≤ lamp_kept w.2.1 → w'.1 = 3 ∧ w'.2.1 = 1 ∧ w'.2.2 = lamp_more w.2.2
  yellowOn : w.1 = 3 → lamp_kept w.2.1 < g.2.2 → w'.1 = 3 ∧ w'.2.1 = lamp_more w.2.1 ∧ w'.2.2 = lamp_more w.2.2
  yellowOff : w.1 = 3 → g.2.2 ≤ lamp_kept w.2.1 → w'.1 = 1 ∧ w'.2.2 = lamp_more w.2.2

theorem gtick {s : PSSite} {now : PSSafe} (h : SOK s) (hp : Pl s now) (p : Int) {j : Int} (j0 : 0 ≤ j) (j1 : j < llen s.2.1) : GTick (el s.2.1 j) (el now.1 j) (inP s p j) (el (stepV s now p).1 j) := by
  have hI := out_inv h hp p
  have hw := hp.goes.may.st.n
  have hst := hp.goes.all _ (idx_some_iff (idx_el (l := now.1) j0 (by rw [hw]; exact j1))).2.2
  unfold StandOK at hst
  rw [if_neg (by rw [hp.fl]; simp)] at hst
  have hon := hI.on j j0 j1
  have hoff := hI.off j j0 j1
  have ha := el_asks (s := s) (p := p) j0 j1
  rw [el_step hp.goes p j0 j1]
  generalize el (admitV s now (asksV s p)) j = o at hon hoff ⊢
  generalize el now.1 j = w at hst hon hoff ⊢
  generalize el s.2.1 j = g at hon ⊢
  rw [ha] at hon hoff
  have want2 : w.1 = 2 → o = if (inP s p j = true ∨ lamp_kept w.2.1 < g.2.1) then 2 else 3 := fun e => by
    rw [hon (by omega)]
    unfold lamp_Want
    simp only [letK]
    by_cases c1 : inP s p j = true <;> by_cases c2 : lamp_kept w.2.1 < g.2.1 <;> simp [e, c1, c2, cnd]
  have want3 : w.1 = 3 → o = if lamp_kept w.2.1 < g.2.2 then 3 else 1 := fun e => by
    rw [hon (by omega)]
    unfold lamp_Want
    simp only [letK]
    by_cases c2 : lamp_kept w.2.1 < g.2.2 <;> simp [e, c2, cnd]
  refine ⟨hst.1, fun e => ?_, fun e hc => ?_, fun e ha hm => ?_, fun e hc => ?_, fun e hc => ?_⟩
  · rcases hoff e with ho | ⟨ho, h2, _⟩
    · subst ho
      exact .inl ⟨nxt_fst _ _, by rw [nxt_ended, if_neg (by decide)]⟩
    · subst ho
      refine .inr ⟨?_, nxt_fst _ _, by rw [nxt_since, if_neg (by omega)], by rw [nxt_ended, if_pos rfl]⟩
      by_cases c : inP s p j = true
      · exact c
      · rw [if_neg c] at h2; omega
  · have := want2 e
    rw [if_pos hc] at this
    subst this
    exact ⟨nxt_fst _ _, by rw [nxt_since, if_pos e.symm], by rw [nxt_ended, if_pos rfl]⟩
  · have := want2 e
    rw [if_neg (by rw [ha]; simp; exact hm)] at this
    subst this
    exact ⟨nxt_fst _ _, by rw [nxt_since, if_neg (by omega)], by rw [nxt_ended, if_neg (by decide)]⟩
  · have := want3 e
    rw [if_pos hc] at this
    subst this
    exact ⟨nxt_fst _ _, by rw [nxt_since, if_pos e.symm], by rw [nxt_ended, if_neg (by decide)]⟩
  · have := want3 e
    rw [if_neg (by omega)] at this
    subst this
    exact ⟨nxt_fst _ _, by rw [nxt_ended, if_neg (by decide)]⟩

/-- a red group turns green if none stands in its way -/
theorem turn_green {s : PSSite} {now : PSSafe} (h : SOK s) (hp : Pl s now) {p j : Int} (j0 : 0 ≤ j) (j1 : j < llen s.2.1) (hj : inP s p j = true) (hr : (el now.1 j).1 = 1)
    (hk : ∀ k, 0 ≤ k → k < llen s.2.1 → apartB s j k = true → inP s p k = false ∧ ((el now.1 k).1 = 1 ∨ (el now.1 k).1 = 3 ∧ (el s.2.1 k).2.2 ≤ lamp_kept (el now.1 k).2.1) ∧ betw s k j ≤ (el now.1 k).2.2) : (el (stepV s now p).1 j).1 = 2 := by
  have hw := hp.goes.may.st.n
  have hl := llen_asks s p
  have hbl := base_len (gs := s.2.1) (ws := now.1) (asks := asksV s p) hw hl
  have n1 := h.n1
  have ha := fun {i : Int} (i0 : 0 ≤ i) (i1 : i < llen s.2.1) => el_asks (s := s) (p := p) i0 i1
  rw [el_step hp.goes p j0 j1, nxt_fst, out_pass h hp]
  have key := pass_ind (s := s) (ws := now.1) (asks := asksV s p) (n := llen s.2.1) (fun i out => llen out = llen s.2.1 ∧ (∀ k, 0 ≤ k → k < llen s.2.1 → apartB s j k = true → el out k = 1) ∧ (j < i → el out j = 2)) (fun i out i0 i1 ⟨g1, g2, g3⟩ => ⟨fun ht => ?_, fun hn => ?_⟩) (llen (asksV s p)).toNat 0 (baseV s.2.1 now.1 (asksV s p)) (by omega) (by omega) ⟨hbl, fun k k0 k1 hjk => ?_, fun hlt => by omega⟩
  · exact key.2.2 j1
  · refine ⟨by rw [llen_lset]; exact g1, fun k k0 k1 hjk => ?_, fun hlt => ?_⟩
    · rw [el_lset i0 (by omega)]
      by_cases e : k = i
      · subst e
        have h2 := ht.2.1
        rw [ha k0 k1, if_neg (by rw [(hk k k0 k1 hjk).1]; simp)] at h2
        omega
      · rw [if_neg e]; exact g2 k k0 k1 hjk
    · rw [el_lset i0 (by omega)]
      by_cases e : j = i
      · rw [if_pos e]
      · rw [if_neg e]; exact g3 (by omega)
  · refine ⟨g1, g2, fun hlt => ?_⟩
    by_cases e : j = i
    · subst e
      exfalso
      apply hn
      refine ⟨hr, by rw [ha j0 j1, if_pos hj], fun ⟨k, k0, k1, hjk, hb⟩ => ?_⟩
      have k1 : k < llen s.2.1 := by omega
      rcases hb with hb | hb
      · exact hb (g2 k k0 k1 hjk)
      · have := (hk k k0 k1 hjk).2.2; omega
    · exact g3 (by omega)
  · obtain ⟨q1, q2, q3⟩ := hk k k0 k1 hjk
    rw [el_of (base_idx (idx_el k0 k1) (idx_el k0 (by omega)) (idx_el k0 (by omega))), bw]
    rcases q2 with q2 | ⟨q2, q4⟩
    · rw [if_pos q2]
    · rw [if_neg (by omega)]
      unfold lamp_Want
      simp only [letK]
      have : ¬ lamp_kept (el now.1 k).2.1 < (el s.2.1 k).2.2 := by omega
      simp [q2, this, cnd]

theorem full_stays {s : PSSite} {now : PSSafe} (h : SOK s) (hp : Pl s now) {p : Int} (hf : fullP s now p) : fullP s (stepV s now p) p := fun i i0 i1 hi =>
  ((gtick h hp p i0 i1).greenOn (hf i i0 i1 hi) (.inl hi)).1

/-- how far a turn to a phase has come, t ticks behind its beginning -/
structure TInv (s : PSSite) (p : Int) (now : PSSafe) (t : Int) : Prop where
  green : ∀ j, 0 ≤ j → j < llen s.2.1 → inP s p j = false → (el now.1 j).1 = 2 → t ≤ lamp_kept (el now.1 j).2.1 ∧ t ≤ (el s.2.1 j).2.1
  ended : ∀ j, 0 ≤ j → j < llen s.2.1 → inP s p j = false → (el now.1 j).1 ≠ 2 → t - (el s.2.1 j).2.1 ≤ lamp_kept (el now.1 j).2.2
  yellow : ∀ j, 0 ≤ j → j < llen s.2.1 → inP s p j = false → (el now.1 j).1 = 3 → t - (el s.2.1 j).2.1 ≤ lamp_kept (el now.1 j).2.1
  own : ∀ j, 0 ≤ j → j < llen s.2.1 → inP s p j = true → (el now.1 j).1 = 3 → t ≤ lamp_kept (el now.1 j).2.1 ∧ t ≤ (el s.2.1 j).2.2

theorem tinv_zero {s : PSSite} (h : SOK s) (p : Int) (now : PSSafe) : TInv s p now 0 where
  green := fun j j0 j1 _ _ => ⟨(kept_in _).1, by have := (h.grp j _ (idx_el j0 j1)).1; omega⟩
  ended := fun j j0 j1 _ _ => by have := (h.grp j _ (idx_el j0 j1)).1; have := (kept_in (el now.1 j).2.2).1; omega
  yellow := fun j j0 j1 _ _ => by have := (h.grp j _ (idx_el j0 j1)).1; have := (kept_in (el now.1 j).2.1).1; omega
  own := fun j j0 j1 _ _ => ⟨(kept_in _).1, by have := (h.grp j _ (idx_el j0 j1)).2; omega⟩

theorem tinv_step {s : PSSite} {now : PSSafe} (h : SOK s) (hp : Pl s now) {p t : Int} (t0 : 0 ≤ t) (t1 : t < 1000000) (hI : TInv s p now t) : TInv s p (stepV s now p) (t + 1) := by
  have hg := fun {j : Int} (j0 : 0 ≤ j) (j1 : j < llen s.2.1) => gtick h hp p j0 j1
  have hgr := fun {j : Int} (j0 : 0 ≤ j) (j1 : j < llen s.2.1) => h.grp j _ (idx_el j0 j1)
  refine ⟨fun j j0 j1 hj h2 => ?_, fun j j0 j1 hj h2 => ?_, fun j j0 j1 hj h3 => ?_, fun j j0 j1 hj h3 => ?_⟩
  · have G := hg j0 j1
    have := hgr j0 j1
    have q1 := hI.green j j0 j1 hj
    rw [hj] at G
    have hr := G.range
    have w3 : (el now.1 j).1 = 1 ∨ (el now.1 j).1 = 2 ∨ (el now.1 j).1 = 3 := by omega
    rcases w3 with e | e | e
    · rcases G.red e with ⟨h, _⟩ | ⟨h, _⟩
      · omega
      · cases h
    · obtain ⟨a1, a2⟩ := q1 e
      by_cases c : lamp_kept (el now.1 j).2.1 < (el s.2.1 j).2.1
      · obtain ⟨_, b2, _⟩ := G.greenOn e (.inr c)
        rw [b2]
        simp only [kept_v, more_v] at *
        omega
      · have := (G.greenOff e rfl (by omega)).1; omega
    · by_cases c : lamp_kept (el now.1 j).2.1 < (el s.2.1 j).2.2
      · have := (G.yellowOn e c).1; omega
      · have := (G.yellowOff e (by omega)).1; omega
  · have G := hg j0 j1
    have := hgr j0 j1
    have q1 := hI.green j j0 j1 hj
    have q2 := hI.ended j j0 j1 hj
    rw [hj] at G
    have hr := G.range
    have w3 : (el now.1 j).1 = 1 ∨ (el now.1 j).1 = 2 ∨ (el now.1 j).1 = 3 := by omega
    have more : (el (stepV s now p).1 j).2.2 = lamp_more (el now.1 j).2.2 := by
      rcases w3 with e | e | e
      · rcases G.red e with ⟨_, h⟩ | ⟨h, _⟩
        · exact h
        · cases h
      · by_cases c : lamp_kept (el now.1 j).2.1 < (el s.2.1 j).2.1
        · have := (G.greenOn e (.inr c)).1; omega
        · exact (G.greenOff e rfl (by omega)).2.2
      · by_cases c : lamp_kept (el now.1 j).2.1 < (el s.2.1 j).2.2
        · exact (G.yellowOn e c).2.2
        · exact (G.yellowOff e (by omega)).2
    rw [more]
    by_cases c : (el now.1 j).1 = 2
    · have := (q1 c).2
      simp only [kept_v, more_v] at *
      omega
    · have := q2 c
      simp only [kept_v, more_v] at *
      omega
  · have G := hg j0 j1
    have := hgr j0 j1
    have q1 := hI.green j j0 j1 hj
    have q3 := hI.yellow j j0 j1 hj
    rw [hj] at G
    have hr := G.range
    have w3 : (el now.1 j).1 = 1 ∨ (el now.1 j).1 = 2 ∨ (el now.1 j).1 = 3 := by omega
    rcases w3 with e | e | e
    · rcases G.red e with ⟨h, _⟩ | ⟨_, h, _⟩ <;> omega
    · by_cases c : lamp_kept (el now.1 j).2.1 < (el s.2.1 j).2.1
      · have := (G.greenOn e (.inr c)).1; omega
      · have b := (G.greenOff e rfl (by omega)).2.1
        rw [b]
        have := (q1 e).2
        simp only [kept_v] at *
        omega
    · by_cases c : lamp_kept (el now.1 j).2.1 < (el s.2.1 j).2.2
      · have b := (G.yellowOn e c).2.1
        rw [b]
        have := q3 e
        simp only [kept_v, more_v] at *
        omega
      · have := (G.yellowOff e (by omega)).1; omega
  · have G := hg j0 j1
    have := hgr j0 j1
    have q4 := hI.own j j0 j1 hj
    have hr := G.range
    have w3 : (el now.1 j).1 = 1 ∨ (el now.1 j).1 = 2 ∨ (el now.1 j).1 = 3 := by omega
    rcases w3 with e | e | e
    · rcases G.red e with ⟨h, _⟩ | ⟨_, h, _⟩ <;> omega
    · have := (G.greenOn e (.inl hj)).1; omega
    · by_cases c : lamp_kept (el now.1 j).2.1 < (el s.2.1 j).2.2
      · have b := (G.yellowOn e c).2.1
        rw [b]
        have := q4 e
        simp only [kept_v, more_v] at *
        omega
      · have := (G.yellowOff e (by omega)).1; omega

/-- times that no group's least green, and no yellow and between, exceeds -/
structure Bounds (s : PSSite) (L X : Int) : Prop where
  least : ∀ j, 0 ≤ j → j < llen s.2.1 → (el s.2.1 j).2.1 ≤ L
  yellow : ∀ j, 0 ≤ j → j < llen s.2.1 → (el s.2.1 j).2.2 ≤ X
  betw : ∀ a b, 0 ≤ a → a < llen s.2.1 → 0 ≤ b → b < llen s.2.1 → apartB s a b = true → betw s a b ≤ X

theorem tinv_full {s : PSSite} {now : PSSafe} (h : SOK s) (hp : Pl s now) {p t L X : Int} (hph : PhP s p) (hB : Bounds s L X) (ht : L + X ≤ t) (hI : TInv s p now t) : fullP s (stepV s now p) p := fun i i0 i1 hi => by
  have G := gtick h hp p i0 i1
  have gi := h.grp i _ (idx_el i0 i1)
  have bl := hB.least i i0 i1
  have bx := hB.yellow i i0 i1
  have hr := G.range
  have w3 : (el now.1 i).1 = 1 ∨ (el now.1 i).1 = 2 ∨ (el now.1 i).1 = 3 := by omega
  rcases w3 with e | e | e
  · refine turn_green h hp i0 i1 hi e fun k k0 k1 hik => ?_
    have hk : inP s p k = false := by
      apply Bool.eq_false_iff.2
      intro hk
      have := hph.apart i k i0 i1 hi hk
      rw [hik] at this; cases this
    obtain ⟨p1, p2, _⟩ := h.pair i k i0 i1 k0 k1
    have hki : apartB s k i = true := by rw [← p1]; exact hik
    have hbk := hB.betw k i k0 k1 i0 i1 hki
    have hb1 := ((h.pair k i k0 k1 i0 i1).2.1 hki).2.1
    have gk := h.grp k _ (idx_el k0 k1)
    have kl := hB.least k k0 k1
    have kx := hB.yellow k k0 k1
    have Gk := gtick h hp p k0 k1
    have hrk := Gk.range
    have q1 := hI.green k k0 k1 hk
    have q2 := hI.ended k k0 k1 hk
    have q3 := hI.yellow k k0 k1 hk
    have w3 : (el now.1 k).1 = 1 ∨ (el now.1 k).1 = 2 ∨ (el now.1 k).1 = 3 := by omega
    rcases w3 with e | e | e
    · refine ⟨hk, .inl e, ?_⟩
      have := q2 (by omega)
      simp only [kept_v] at this
      omega
    · have := (q1 e).2; omega
    · refine ⟨hk, .inr ⟨e, ?_⟩, ?_⟩
      · have := q3 e; omega
      · have := q2 (by omega)
        simp only [kept_v] at this
        omega
  · exact (G.greenOn e (.inl hi)).1
  · have := (hI.own i i0 i1 hi e).2; omega

/-- a phase that is full: no red is to come, and nothing flashes -/
theorem full_pl {s : PSSite} {now : PSSafe} {p : Int} (hph : PhP s p) (hG : GoesP s now) (hf : fullP s now p) : Pl s now := by
  obtain ⟨a, a0, a1, ha⟩ := hph.one
  have h2 := hf a a0 a1 ha
  have hst := hG.all _ (idx_some_iff (idx_el (l := now.1) a0 (by rw [hG.may.st.n]; exact a1))).2.2
  have hlo := hG.may.st.lo
  unfold StandOK at hst
  split at hst
  · omega
  · rename_i c
    exact ⟨hG, by omega, Bool.eq_false_iff.2 c⟩

end Go.Proofs.YtfdnmjabjmedgaaDoor
