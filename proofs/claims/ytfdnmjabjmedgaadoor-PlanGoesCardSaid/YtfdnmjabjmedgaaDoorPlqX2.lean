/- Part of a proof: plain readings of Go functions, their contracts, or plain facts of them. -/
import Derived.Test.YtfdnmjabjmedgaaDoorPlqX3
namespace Go.Proofs.YtfdnmjabjmedgaaDoor
open Go.Den

/-! # The document's plan -/
theorem refAfter_e {s : PSSite} (hs : ShapeOK s) {k : Int} (k0 : 0 ≤ k) (k1 : k < llen s.2.2.2.2.1) : ref17_After (s, k) = nextP s k := by
  have p1 := hs.p1
  have p2 := hs.p2
  rw [(next_e hs k0 k1).2]
  unfold ref17_After
  rw [wr_i64 (llen s.2.2.2.2.1 - 1) (by omega) (by omega), wr_i64 (k + 1) (by omega) (by omega)]
  by_cases c : k + 1 < llen s.2.2.2.2.1
  · rw [cnd_neg _ _ (by simp; omega), if_pos c]
  · rw [cnd_pos _ _ (by simp; omega), if_neg c]
theorem refIn17_e {s : PSSite} (hs : SFits s) {p i : Int} (p0 : 0 ≤ p) (p1 : p < llen s.2.2.2.2.1) (i0 : 0 ≤ i) (i1 : i ≤ 31) : ref17_in_t (s, (p, i)) = some (inP s p i) := by
  have e := idx_el (l := s.2.2.2.2.1) p0 p1
  unfold ref17_in_t
  rw [elimO_eq _ _ e]
  have hw : wr .u64 i = i := wr_u64i i0 (by omega)
  show some (bitop .and .u32 (shrop .u32 (el s.2.2.2.2.1 p).1 (wr .u64 i)) 1 == 1) = _
  rw [hw, andBit (hs.ps _ (idx_some_iff e).2.2).1 i0 i1]
  rfl

theorem refGap_e {s : PSSite} (hx : SFits s) (hS : SiteOK s) {k : Int} (k0 : 0 ≤ k) (k1 : k < llen s.2.2.2.2.1) : ref17_Gap_t (s, k) = some (clrV s k) := by
  have h := sok hx hS
  have n1 := h.n1
  have n2 := h.n2
  have T := ptimes hx hS k0 k1
  obtain ⟨q0, q1⟩ := nextP_in hS.shape k0
  have hp := idx_el k0 k1
  obtain ⟨_, pn, mm, hpn, hci, hv, _, _⟩ := needs_s hx hS.shape hS.apart hS.phased hp
  have hcl : clrV s k = mm := by
    have hm : minP s k = (el s.2.2.2.2.1 k).2.1 := rfl
    unfold clrV; omega
  -- the greatest is attained
  have hatt : mm = 0 ∨ ∃ a b, 0 ≤ a ∧ a < llen s.2.1 ∧ 0 ≤ b ∧ b < llen s.2.1 ∧ inP s k a = true ∧ inP s (nextP s k) b = true ∧ apartB s a b = true ∧ betw s a b = mm := by
    rcases hci.2.2 with e | ⟨a, a0, a1, hpa, sa, r, b, e1, e2, e3, e4, e5⟩
    · exact .inl e
    · have hr := h.rows a r e2
      obtain ⟨b0, b1, _⟩ := idx_some_iff e5
      refine .inr ⟨a, b, a0, a1, b0, by omega, hpa, ?_, ?_, ?_⟩
      · unfold inP; rw [el_of hpn]; exact e4
      · unfold apartB; rw [el_of e1]; exact e3
      · unfold betw; rw [el_of e2, el_of e5]
  unfold ref17_Gap_t
  show letK (ref17_After (s, k)) _ = _
  rw [refAfter_e hS.shape k0 k1, letK_app]
  refine iter_up (fun z : Int × Int => z.2) (llen s.2.1) (fun z => 0 ≤ z.1 ∧ z.1 ≤ clrV s k ∧ ∀ a b, 0 ≤ a → a < z.2 → 0 ≤ b → b < llen s.2.1 → inP s k a = true → inP s (nextP s k) b = true → apartB s a b = true → betw s a b ≤ z.1) (fun r => r = some (clrV s k)) (by omega) (by simp) (by simp only; omega) ⟨by simp, T.clr.1, fun a b h0 h1 => by simp only at h1; omega⟩ (fun z hI a0 a1 => ?_) (fun z hI hz => ?_)
  · obtain ⟨m, a⟩ := z
    obtain ⟨m0, m1, hI⟩ := hI
    simp only at a0 a1 m0 m1 hI
    try simp only
    rw [cnd_pos _ _ (decide_eq_true a1)]
    refine iter_up (fun z : Int × Int => z.2) (llen s.2.1) (fun z => m ≤ z.1 ∧ z.1 ≤ clrV s k ∧ ∀ b, 0 ≤ b → b < z.2 → inP s k a = true → inP s (nextP s k) b = true → apartB s a b = true → betw s a b ≤ z.1) _ (by omega) (by simp) (by simp only; omega) ⟨by simp, m1, fun b h0 h1 => by simp only at h1; omega⟩ (fun z hJ b0 b1 => ?_) (fun z hJ hz => ?_)
    · obtain ⟨m', b⟩ := z
      obtain ⟨m2, m3, hJ⟩ := hJ
      simp only at b0 b1 m2 m3 hJ
      try simp only
      rw [cnd_pos _ _ (decide_eq_true b1), elimO_eq _ _ (refIn17_e hx k0 k1 a0 (by omega)), wr_i64 (b + 1) (by omega) (by omega)]
      have same : (inP s k a = true → inP s (nextP s k) b = true → apartB s a b = true → betw s a b ≤ m') → UpRound (fun z : Int × Int => z.2) (fun z => m ≤ z.1 ∧ z.1 ≤ clrV s k ∧ ∀ b, 0 ≤ b → b < z.2 → inP s k a = true → inP s (nextP s k) b = true → apartB s a b = true → betw s a b ≤ z.1) (UpRound (fun z : Int × Int => z.2) (fun z => 0 ≤ z.1 ∧ z.1 ≤ clrV s k ∧ ∀ a b, 0 ≤ a → a < z.2 → 0 ≤ b → b < llen s.2.1 → inP s k a = true → inP s (nextP s k) b = true → apartB s a b = true → betw s a b ≤ z.1) (fun r : Option Int => r = some (clrV s k)) a) b (.next (m', b + 1)) := fun hh => by
        refine ⟨rfl, m2, m3, fun b' h0 h1 => ?_⟩
        simp only at h1 ⊢
        by_cases e : b' = b
        · subst e; exact hh
        · exact hJ b' h0 (by omega)
      rcases Bool.eq_false_or_eq_true (inP s k a) with ea | ea
      · rw [cnd_pos _ _ ea, elimO_eq _ _ (refIn17_e hx q0 q1 b0 (by omega))]
        rcases Bool.eq_false_or_eq_true (inP s (nextP s k) b) with eb | eb
        · rw [cnd_pos _ _ eb, elimO_eq _ _ (refApart8_e h a0 a1 b0 b1)]
          rcases Bool.eq_false_or_eq_true (apartB s a b) with ec | ec
          · rw [cnd_pos _ _ ec, elimO_eq _ _ (refBetween8_e h a0 a1 b0 b1)]
            have hle := T.clear a b a0 a1 b0 b1 ea eb ec
            by_cases c : m' < betw s a b
            · rw [cnd_pos _ _ (decide_eq_true c), elimO_eq _ _ (refBetween8_e h a0 a1 b0 b1)]
              refine ⟨rfl, by simp only; omega, hle, fun b' h0 h1 d1 d2 d3 => ?_⟩
              simp only at h1 ⊢
              by_cases e : b' = b
              · subst e; omega
              · have := hJ b' h0 (by omega) d1 d2 d3; omega
            · rw [cnd_neg _ _ (decide_eq_false c)]; exact same fun _ _ _ => by omega
          · rw [cnd_neg _ _ ec]; exact same fun _ _ hh => by rw [ec] at hh; cases hh
        · rw [cnd_neg _ _ eb]; exact same fun _ hh => by rw [eb] at hh; cases hh
      · rw [cnd_neg _ _ ea]; exact same fun hh => by rw [ea] at hh; cases hh
    · obtain ⟨m', b⟩ := z
      obtain ⟨m2, m3, hJ⟩ := hJ
      simp only at hz m2 m3 hJ
      subst hz
      try simp only
      rw [cnd_neg _ _ (decide_eq_false (by omega)), wr_i64 (a + 1) (by omega) (by omega)]
      refine ⟨rfl, by simp only; omega, m3, fun a' b' h0 h1 c0 c1 d1 d2 d3 => ?_⟩
      simp only at h1 ⊢
      by_cases e : a' = a
      · subst e; exact hJ b' c0 c1 d1 d2 d3
      · have := hI a' b' h0 (by omega) c0 c1 d1 d2 d3; omega
  · obtain ⟨m, a⟩ := z
    obtain ⟨m0, m1, hI⟩ := hI
    simp only at hz m0 m1 hI
    subst hz
    try simp only
    rw [cnd_neg _ _ (decide_eq_false (by omega))]
    show some m = some (clrV s k)
    congr 1
    rcases hatt with e | ⟨a, b, a0, a1, b0, b1, ea, eb, ec, ed⟩
    · omega
    · have := hI a b a0 a1 b0 b1 ea eb ec
      omega

theorem refFits_e {s : PSSite} {p : PSPlan} (hx : SFits s) (hS : SiteOK s) : ∃ b, ref17_Fits_t (s, p) = some b ∧ (b = true ↔ PlanOK s p) := by
  have N := clampNums hx hS p
  obtain ⟨l1, l2, l3⟩ := N.low
  have hlow : lowV s = s.2.2.2.2.2.2.2.2.2.1 := rfl
  have hhigh : highV s = s.2.2.2.2.2.2.2.2.2.2.1 := rfl
  have hnl : ((nV s : Nat) : Int) = llen s.2.2.2.2.1 := rfl
  have nn := N.n
  unfold ref17_Fits_t
  try simp only
  rw [cnd_if]
  split
  · rename_i hc
    simp only [Bool.or_eq_true, decide_eq_true_eq, Bool.not_eq_true', beq_eq_false_iff_ne, ne_eq] at hc
    refine ⟨false, rfl, fun hh => (by cases hh), fun hh => ?_⟩
    exfalso
    have c1 := hh.cycle
    have c2 := hh.offset
    have c3 := hh.len
    omega
  · rename_i hc
    simp only [Bool.or_eq_true, decide_eq_true_eq, Bool.not_eq_true', beq_eq_false_iff_ne, ne_eq, not_or, Classical.not_not] at hc
    obtain ⟨⟨⟨⟨c1, c2⟩, c3⟩, c4⟩, c5⟩ := hc
    have hlen : p.2.2.length = nV s := by unfold llen at c5; unfold nV; omega
    refine iter_up (fun z : Int × Int => z.2) (nV s : Int) (fun z => z.1 = sumT (fun i => el p.2.2 i) z.2.toNat ∧ ∀ i, 0 ≤ i → i < z.2 → needsV s i ≤ el p.2.2 i ∧ el p.2.2 i ≤ p.1) (fun r => ∃ b, r = some b ∧ (b = true ↔ PlanOK s p)) (by omega) (by simp) (by simp only; omega) ⟨rfl, fun i h0 h1 => by simp only at h1; omega⟩ (fun z hI i0 i1 => ?_) (fun z hI hz => ?_)
    · obtain ⟨m, i⟩ := z
      obtain ⟨hm, hI⟩ := hI
      simp only at i0 i1 hm hI
      subst hm
      have hidx := idx_el (l := p.2.2) i0 (by rw [c5, ← hnl]; exact i1)
      have hph := idx_el (l := s.2.2.2.2.1) i0 (by rw [← hnl]; exact i1)
      have T := ptimes hx hS (k := i) i0 (by omega)
      have t1 := T.min
      have t2 := T.clr
      have hmin : (el s.2.2.2.2.1 i).2.1 = minP s i := rfl
      have hnd : needsV s i = minP s i + clrV s i := by unfold clrV; omega
      have hni : ((i.toNat : Nat) : Int) = i := by omega
      try simp only
      rw [cnd_pos _ _ (decide_eq_true (by rw [c5, ← hnl]; exact i1)), elimO_eq _ _ hidx, elimO_eq _ _ hph, elimO_eq _ _ (refGap_e hx hS i0 (by omega)), hmin, wr_i64 (minP s i + clrV s i) (by omega) (by omega)]
      by_cases d1 : el p.2.2 i < minP s i + clrV s i
      · rw [cnd_pos _ _ (decide_eq_true d1)]
        refine ⟨false, rfl, fun hh => (by cases hh), fun hh => ?_⟩
        have := (hh.split i.toNat (by omega)).1
        rw [hni] at this
        omega
      · rw [cnd_neg _ _ (decide_eq_false d1), elimO_eq _ _ hidx]
        by_cases d2 : p.1 < el p.2.2 i
        · rw [cnd_pos _ _ (decide_eq_true d2)]
          refine ⟨false, rfl, fun hh => (by cases hh), fun hh => ?_⟩
          have h1 := (hh.split i.toNat (by omega)).2
          rw [hni, left_sum] at h1
          have h2 : 0 ≤ sumT (fun i => el p.2.2 i) i.toNat := sumT_mono (f := fun i => el p.2.2 i) (n := i.toNat) (k := 0) (fun k hk => by
            have := (hI (k : Int) (by omega) (by omega)).1
            have := needs_in hx hS (i := (k : Int)) (by omega) (by omega)
            omega) i.toNat (Nat.le_refl _) (by omega)
          omega
        · rw [cnd_neg _ _ (decide_eq_false d2), elimO_eq _ _ hidx]
          have hb := sumT_le (f := fun i => el p.2.2 i) (b := 1048576) (n := i.toNat) (fun k hk => by
            have h1 := hI (k : Int) (by omega) (by omega)
            have := needs_in hx hS (i := (k : Int)) (by omega) (by omega)
            omega) i.toNat (Nat.le_refl _)
          have hbb : (1048576 : Int) * (i.toNat : Int) ≤ 8388608 := by omega
          have hn0 := needs_in hx hS (i := i) i0 (by omega)
          rw [wr_i64 (sumT (fun i => el p.2.2 i) i.toNat + el p.2.2 i) (by omega) (by omega), wr_i64 (i + 1) (by omega) (by omega)]
          refine ⟨rfl, ?_, fun j j0 j1 => ?_⟩
          · simp only
            rw [show (i + 1).toNat = i.toNat + 1 by omega, sumT, hni]
          · simp only at j1
            by_cases e : j = i
            · subst e; omega
            · exact hI j j0 (by omega)
    · obtain ⟨m, i⟩ := z
      obtain ⟨hm, hI⟩ := hI
      simp only at hz hm hI
      subst hm
      subst hz
      rw [Int.toNat_natCast]
      try simp only
      rw [cnd_neg _ _ (decide_eq_false (by rw [c5, ← hnl]; omega))]
      refine ⟨_, rfl, ?_⟩
      rw [beq_iff_eq]
      constructor
      · intro hsum
        have hpos : ∀ k : Nat, k < nV s → 0 ≤ (fun i => el p.2.2 i) (k : Int) := fun k hk => by
          have := (hI (k : Int) (by omega) (by omega)).1
          have := needs_in hx hS (i := (k : Int)) (by omega) (by omega)
          simp only; omega
        refine ⟨by omega, by omega, c5, fun m hm => ?_, ?_⟩
        · rw [c5, ← hnl] at hm
          refine ⟨(hI (m : Int) (by omega) hm).1, ?_⟩
          rw [left_sum]
          have := sumT_mono (f := fun i => el p.2.2 i) (k := m + 1) hpos (nV s) (Nat.le_refl _) (by omega)
          rw [sumT] at this
          omega
        · rw [left_sum, hlen]; omega
      · intro hh
        have := hh.all
        rw [left_sum, hlen] at this
        omega

theorem refPart_e {s : PSSite} {p : PSPlan} (N : PNums s p) {t : Int} (t0 : 0 ≤ t) {k : Nat} (hk : k < nV s) (hpt : IsPart p k (placeV p t)) : ref17_Part_t (p, t) = some ((k : Int), placeV p t - endV p k) := by
  have c := N.cyc
  have o := N.off
  have nn := N.n
  obtain ⟨a, b⟩ := hpt
  obtain ⟨x0, x1⟩ := place_in N t
  have hlen : llen p.2.2 = (nV s : Int) := by unfold llen; rw [N.len]
  have m0 := Int.emod_nonneg t (show p.1 ≠ 0 by omega)
  have m1 := Int.emod_lt_of_pos t (show 0 < p.1 by omega)
  have hpl : irem (wr .i64 (wr .i64 (irem t p.1 + p.1) - p.2.1)) p.1 = placeV p t := by
    have e1 : irem t p.1 = t % p.1 := Int.tmod_eq_emod_of_nonneg t0
    rw [e1, wr_i64 (t % p.1 + p.1) (by omega) (by omega), wr_i64 _ (by omega) (by omega)]
    show (t % p.1 + p.1 - p.2.1).tmod p.1 = (t + p.1 - p.2.1) % p.1
    rw [Int.tmod_eq_emod_of_nonneg (by omega)]
    have hq := Int.emod_add_mul_ediv t p.1
    generalize t / p.1 = q at hq
    have : t + p.1 - p.2.1 = (t % p.1 + p.1 - p.2.1) + p.1 * q := by omega
    rw [this, Int.add_mul_emod_self_left]
  have hz : (!(p.1 == 0)) = true := by simp; omega
  unfold ref17_Part_t
  try simp only
  rw [cnd_pos _ _ hz, cnd_pos _ _ hz, hpl]
  refine iter_up (fun z : Int × Int => z.2) (k : Int) (fun z => z.1 = placeV p t - endV p z.2.toNat) (fun r => r = some ((k : Int), placeV p t - endV p k)) (by omega) (by simp) (by simp only; omega) (by simp [endV, sumT]) (fun z hI i0 i1 => ?_) (fun z hI hz => ?_)
  · obtain ⟨x, i⟩ := z
    simp only at i0 i1 hI
    subst hI
    have hni : ((i.toNat : Nat) : Int) = i := by omega
    have hidx := idx_el (l := p.2.2) (i := i) i0 (by omega)
    have hm := ends_mono N (j := i.toNat + 1) (k := k) (by omega) (by omega)
    have e0 := N.ends i.toNat (by omega)
    have e1 := N.needs i.toNat (by omega)
    rw [endV_succ, hni] at hm
    rw [hni] at e1
    have eb := N.ends k (by omega)
    try simp only
    rw [elimO_eq _ _ hidx, cnd_pos _ _ (decide_eq_true (by omega)), elimO_eq _ _ hidx, wr_i64 (placeV p t - endV p i.toNat - el p.2.2 i) (by omega) (by omega), wr_i64 (i + 1) (by omega) (by omega)]
    refine ⟨rfl, ?_⟩
    simp only
    rw [show (i + 1).toNat = i.toNat + 1 by omega, endV_succ, hni]
    omega
  · obtain ⟨x, i⟩ := z
    simp only at hz hI
    subst hz
    rw [Int.toNat_natCast] at hI
    subst hI
    have hidx := idx_el (l := p.2.2) (i := (k : Int)) (by omega) (by omega)
    rw [endV_succ] at b
    try simp only
    rw [elimO_eq _ _ hidx, cnd_neg _ _ (decide_eq_false (by omega))]
    exact rfl

theorem refAt_e {s : PSSite} {p : PSPlan} {t e : Int} (hx : SFits s) (hok : e = 0 → SiteOK s) (hc : site_Check_t s = some e) (hr : ref05_Check_t s = some e) (hp : PFits p) : ref17_At_t (s, (p, t)) = plan_At_t (s, (p, t)) := by
  unfold ref17_At_t
  rw [elimO_eq _ _ hr]
  by_cases h0 : e = 0
  · subst h0
    have hS := hok rfl
    rw [cnd_neg _ _ (by rfl)]
    obtain ⟨b, h1, h2⟩ := refFits_e (p := p) hx hS
    rw [elimO_eq _ _ h1]
    by_cases hpk : PlanOK s p
    · have hb : b = true := h2.2 hpk
      subst hb
      rw [cnd_neg _ _ (by rfl), cnd_if]
      split
      · rename_i ht
        simp only [Bool.or_eq_true, decide_eq_true_eq] at ht
        rw [at_far hx hS hc hp hpk ht]
      · rename_i ht
        simp only [Bool.or_eq_true, decide_eq_true_eq, not_or] at ht
        obtain ⟨k, hk, hpt, hat⟩ := at_e hx hS hc hp hpk (t := t) (by omega) (by omega)
        rw [hat, elimO_eq _ _ (refPart_e (pnums hx hS hpk) (by omega) hk hpt)]
    · have hb : b = false := Bool.eq_false_iff.2 fun hh => hpk (h2.1 hh)
      subst hb
      rw [cnd_pos _ _ (by rfl), at_no hx hS hc hp hpk]
  · rw [cnd_pos _ _ (by simp [h0]), at_bad hc h0]

theorem refWants17_e {s : PSSite} {p : PSPlan} {t e : Int} (hx : SFits s) (hok : e = 0 → SiteOK s) (hc : site_Check_t s = some e) (hr : ref05_Check_t s = some e) (hp : PFits p) : ref17_Wants_t (s, (p, t)) = plan_Wants_t (s, (p, t)) ∧ ∃ r, plan_Wants_t (s, (p, t)) = some r := by
  have hat := refAt_e (t := t) hx hok hc hr hp
  have bad : ∀ err, err ≠ 0 → plan_At_t (s, (p, t)) = some (0, (0, err)) → ref17_Wants_t (s, (p, t)) = plan_Wants_t (s, (p, t)) ∧ ∃ r, plan_Wants_t (s, (p, t)) = some r := fun err h0 h => by
    unfold ref17_Wants_t plan_Wants_t
    rw [hat, elimO_eq _ _ h, elimO_eq _ _ h, cnd_pos _ _ (by simp [h0]), cnd_pos _ _ (by simp [h0])]
    exact ⟨rfl, _, rfl⟩
  by_cases h0 : e = 0
  · subst h0
    have hS := hok rfl
    by_cases hpk : PlanOK s p
    · by_cases ht : t < 0 ∨ 1073741824 < t
      · exact bad 2 (by decide) (at_far hx hS hc hp hpk ht)
      · obtain ⟨k, hk, hpt, hpa⟩ := at_e hx hS hc hp hpk (t := t) (by omega) (by omega)
        have N := pnums hx hS hpk
        rw [wants_at hx hS hc N hk hpa]
        refine ⟨?_, _, rfl⟩
        have hnl : ((nV s : Nat) : Int) = llen s.2.2.2.2.1 := rfl
        have hln : llen p.2.2 = (nV s : Int) := by unfold llen; rw [N.len]
        have hidx := idx_el (l := p.2.2) (i := (k : Int)) (by omega) (by omega)
        have T := ptimes hx hS (k := (k : Int)) (by omega) (by omega)
        have nn := N.needs k hk
        have e1 := N.ends (k + 1) (by omega)
        have e0 := N.ends k (by omega)
        have cy := N.cyc
        rw [endV_succ] at e1
        have hcc := T.clr
        unfold ref17_Wants_t
        rw [hat, elimO_eq _ _ hpa]
        try simp only
        rw [cnd_neg (b := !((0 : Int) == 0)) _ _ rfl, elimO_eq _ _ hidx, elimO_eq _ _ (refGap_e hx hS (by omega) (by omega)), wr_i64 (el p.2.2 (k : Int) - clrV s (k : Int)) (by omega) (by omega)]
        unfold wantV
        by_cases c : el p.2.2 (k : Int) - clrV s (k : Int) ≤ placeV p t - endV p k
        · rw [cnd_pos _ _ (decide_eq_true c), if_pos c, refAfter_e hS.shape (by omega) (by omega), letK_app]
        · rw [cnd_neg _ _ (decide_eq_false c), if_neg c]
    · exact bad 170 (by decide) (at_no hx hS hc hp hpk)
  · exact bad e h0 (at_bad hc h0)

theorem refSame_refl {a : PSPlan} (h : a.2.2.length ≤ maxLen) : ref17_Same_t (a, a) = some true := by
  unfold ref17_Same_t
  rw [cnd_neg _ _ (by simp)]
  refine iter_allQ (l := a.2.2) (fun r : Option Bool => r = some true) (fun _ _ => True) (some false) (some true) h (fun i w h0 hi hw => ?_) (fun i hi => by (try simp only); rw [cnd_neg _ _ (decide_eq_false hi)]) (fun _ => rfl) (fun hh => absurd (fun _ _ _ => trivial) hh)
  try simp only
  rw [cnd_pos _ _ (decide_eq_true hi), elimO_eq _ _ hw, elimO_eq _ _ hw, cnd_neg _ _ (by simp)]
  exact .inl ⟨trivial, rfl⟩

end Go.Proofs.YtfdnmjabjmedgaaDoor
