/- Part of a proof: plain readings of Go functions, their contracts, or plain facts of them. -/
import Derived.Test.YtfdnmjabjmedgaaDoorPlqJ
namespace Go.Proofs.YtfdnmjabjmedgaaDoor
open Go.Den

/-! # A plan that is near may be one of the site, and is near itself -/
theorem sumT_mono {f : Int → Int} {n : Nat} (h : ∀ k : Nat, k < n → 0 ≤ f (k : Int)) {k : Nat} : ∀ m, m ≤ n → k ≤ m → sumT f k ≤ sumT f m
  | 0, _, hk => by rw [show k = 0 by omega]; omega
  | m + 1, hm, hk => by
    by_cases e : k = m + 1
    · rw [e]; omega
    · have := sumT_mono h (k := k) m (by omega) (by omega)
      have := h m (by omega)
      rw [sumT]; omega
theorem sumT_congr {f g : Int → Int} {n : Nat} (h : ∀ k : Nat, k < n → f (k : Int) = g (k : Int)) : ∀ m, m ≤ n → sumT f m = sumT g m
  | 0, _ => rfl
  | m + 1, hm => by rw [sumT, sumT, sumT_congr h m (by omega), h m (by omega)]
theorem sumT_add (f g : Int → Int) : ∀ m, sumT (fun i => f i + g i) m = sumT f m + sumT g m
  | 0 => rfl
  | m + 1 => by rw [sumT, sumT, sumT, sumT_add f g m]; omega
theorem sumT_sub (f g : Int → Int) : ∀ m, sumT (fun i => f i - g i) m = sumT f m - sumT g m
  | 0 => rfl
  | m + 1 => by rw [sumT, sumT, sumT, sumT_sub f g m]; omega
theorem sumT_bump (f : Int → Int) (a c : Int) (h0 : 0 ≤ a) : ∀ m, sumT (fun i => if i = a then f i + c else f i) m = sumT f m + if a < (m : Int) then c else 0
  | 0 => by rw [sumT, sumT, if_neg (by omega)]; rfl
  | m + 1 => by
    rw [sumT, sumT, sumT_bump f a c h0 m]
    by_cases e : (m : Int) = a
    · rw [if_pos e, if_neg (by omega), if_pos (by omega)]; omega
    · rw [if_neg e]
      by_cases e2 : a < (m : Int)
      · rw [if_pos e2, if_pos (by omega)]; omega
      · rw [if_neg e2, if_neg (by omega)]; omega
theorem left_sum (p : PSPlan) : ∀ m, leftTo p m = p.1 - sumT (fun i => el p.2.2 i) m
  | 0 => by rw [leftTo, sumT]; omega
  | m + 1 => by rw [leftTo, sumT, left_sum p m]; omega

theorem split_sum {s : PSSite} {p : PSPlan} (hx : SFits s) (h : SiteOK s) : sumT (splitV s p) (nV s) = cycV s p := by
  have N := clampNums hx h p
  obtain ⟨a0, a1⟩ := N.at_
  have e1 : sumT (splitV s p) (nV s) = sumT (fun i => if i = atV s p then partV s p i + leftV s p else partV s p i) (nV s) := rfl
  rw [e1, sumT_bump _ _ _ a0, if_pos a1]
  have e2 : sumT (partV s p) (nV s) = sumT (fun i => needsV s i + shareV s p i) (nV s) := rfl
  rw [e2, sumT_add, sumT_round]
  unfold leftV restV roundV nV
  omega

theorem clamp_el {s : PSSite} {p : PSPlan} {j : Int} (j0 : 0 ≤ j) (j1 : j < (nV s : Int)) : el (clampV s p).2.2 j = splitV s p j := by
  unfold el clampV
  simp only
  rw [listT_idx j0 j1]; rfl

theorem split_ge {s : PSSite} {p : PSPlan} (hx : SFits s) (h : SiteOK s) {j : Int} (j0 : 0 ≤ j) (j1 : j < (nV s : Int)) : needsV s j ≤ splitV s p j := by
  have N := clampNums hx h p
  have h1 := N.share j j0 j1
  have h2 := N.shares (nV s) (Nat.le_refl _)
  unfold splitV partV leftV
  split <;> omega

theorem clamp_ok {s : PSSite} {p : PSPlan} (hx : SFits s) (h : SiteOK s) : PlanOK s (clampV s p) := by
  have N := clampNums hx h p
  have hnl : ((nV s : Nat) : Int) = llen s.2.2.2.2.1 := rfl
  have hlen : llen (clampV s p).2.2 = (nV s : Int) := listT_len _ _
  have hlen' : (clampV s p).2.2.length = nV s := by unfold llen at hlen; omega
  have hsum : ∀ m, m ≤ nV s → leftTo (clampV s p) m = cycV s p - sumT (splitV s p) m := fun m hm => by
    rw [left_sum]
    have e : sumT (fun i => el (clampV s p).2.2 i) m = sumT (splitV s p) m := sumT_congr (n := nV s) (fun k hk => clamp_el (by omega) (by omega)) m hm
    rw [e]; rfl
  refine ⟨N.cyc, ⟨N.off.1, ?_⟩, by rw [hlen, hnl], fun m hm => ?_, ?_⟩
  · have := N.off.2
    show offV s p ≤ cycV s p - 1
    omega
  · rw [hlen] at hm
    rw [clamp_el (by omega) hm, hsum m (by omega)]
    refine ⟨split_ge hx h (by omega) hm, ?_⟩
    have := sumT_mono (f := splitV s p) (n := nV s) (k := m + 1) (fun k hk => by
      have := needs_in hx h (i := (k : Int)) (by omega) (by rw [← hnl]; omega)
      have := split_ge (p := p) hx h (j := (k : Int)) (by omega) (by omega)
      omega) (nV s) (Nat.le_refl _) (by omega)
    rw [sumT, split_sum hx h] at this
    omega
  · rw [hlen', hsum _ (Nat.le_refl _), split_sum hx h]; omega

theorem clamp_id {s : PSSite} {p : PSPlan} (hx : SFits s) (h : SiteOK s) (hp : PlanOK s p) : clampV s p = p := by
  have N := clampNums hx h p
  have hnl : ((nV s : Nat) : Int) = llen s.2.2.2.2.1 := rfl
  have hplen : llen p.2.2 = (nV s : Int) := hp.len
  have hplen' : p.2.2.length = nV s := by unfold llen at hplen; omega
  obtain ⟨c1, c2⟩ := hp.cycle
  obtain ⟨o1, o2⟩ := hp.offset
  have hcyc : cycV s p = p.1 := by
    unfold cycV lowV highV; omega
  have hoff : offV s p = p.2.1 := by
    unfold offV
    rw [hcyc, Int.tmod_eq_of_lt o1 (by omega), Int.tmod_eq_emod_of_nonneg (by omega), Int.add_emod_right, Int.emod_eq_of_lt o1 (by omega)]
  have hge : ∀ k : Nat, k < nV s → needsV s (k : Int) ≤ el p.2.2 (k : Int) ∧ 1 ≤ el p.2.2 (k : Int) ∧ el p.2.2 (k : Int) ≤ p.1 := fun k hk => by
    have h1 := hp.split k (by omega)
    have h2 := needs_in hx h (i := (k : Int)) (by omega) (by rw [← hnl]; omega)
    have h3 : 0 ≤ sumT (fun i => el p.2.2 i) k := by
      have : ∀ m, m ≤ k → 0 ≤ sumT (fun i => el p.2.2 i) m := by
        intro m
        induction m with
        | zero => intro _; simp [sumT]
        | succ m ih =>
          intro hm
          have := ih (by omega)
          have a := (hp.split m (by omega)).1
          have b := needs_in hx h (i := (m : Int)) (by omega) (by rw [← hnl]; omega)
          rw [sumT]; omega
      exact this k (Nat.le_refl _)
    have h4 := left_sum p k
    exact ⟨h1.1, by omega, by omega⟩
  have hwish : ∀ k : Nat, k < nV s → wishV s p (k : Int) = el p.2.2 (k : Int) - needsV s (k : Int) := fun k hk => by
    have := hge k hk
    unfold wishV
    rw [if_pos (by omega)]
    have hh : p.1 ≤ highV s := c2
    omega
  have hspl : sumT (fun i => el p.2.2 i) (nV s) = p.1 := by
    have := hp.all
    rw [hplen', left_sum] at this
    omega
  have hall : allV s p = restV s p := by
    unfold allV restV
    rw [sumT_congr (n := nV s) (g := fun i => el p.2.2 i - needsV s i) hwish (nV s) (Nat.le_refl _), sumT_sub, hspl, sumT_round, hcyc]
    rfl
  have hshare : ∀ k : Nat, k < nV s → shareV s p (k : Int) = wishV s p (k : Int) := fun k hk => by
    unfold shareV
    by_cases c : 0 < allV s p
    · rw [if_pos c, ← hall, Int.mul_ediv_cancel_left _ (by omega)]
    · rw [if_neg c]
      have h0 : allV s p = 0 := by
        have := (N.all (nV s) (Nat.le_refl _)).1
        unfold allV at c ⊢; omega
      have h1 := N.wish (k : Int) (by omega) (by omega)
      have h2 := sumT_mono (f := wishV s p) (n := nV s) (k := k + 1) (fun m hm => (N.wish (m : Int) (by omega) (by omega)).1) (nV s) (Nat.le_refl _) (by omega)
      have h3 := (N.all k (by omega)).1
      rw [sumT] at h2
      unfold allV at h0
      omega
  have hleft : leftV s p = 0 := by
    unfold leftV
    rw [sumT_congr (n := nV s) (g := wishV s p) hshare (nV s) (Nat.le_refl _)]
    unfold allV at hall
    omega
  have hsplits : listT (splitV s p) (nV s) = p.2.2 := by
    refine idx_ext (by rw [listT_len, hplen]) fun j j0 j1 => ?_
    rw [listT_len] at j1
    rw [listT_idx j0 j1, idx_el j0 (by omega)]
    have hk := hshare j.toNat (by omega)
    have hw := hwish j.toNat (by omega)
    rw [show ((j.toNat : Nat) : Int) = j by omega] at hk hw
    unfold splitV partV
    rw [hleft, hk, hw]
    congr 1
    split <;> omega
  unfold clampV
  rw [hcyc, hoff, hsplits]

theorem clamp_fits {s : PSSite} {p : PSPlan} (hx : SFits s) (h : SiteOK s) : PFits (clampV s p) ∧ (-9223372036854775808 ≤ (clampV s p).2.1 ∧ (clampV s p).2.1 ≤ 9223372036854775807) := by
  have N := clampNums hx h p
  have hok := clamp_ok (p := p) hx h
  obtain ⟨l1, l2, l3⟩ := N.low
  obtain ⟨c1, c2⟩ := N.cyc
  obtain ⟨o1, o2⟩ := N.off
  obtain ⟨n1, n2⟩ := N.n
  have hnl : ((nV s : Nat) : Int) = llen s.2.2.2.2.1 := rfl
  have hlen : llen (clampV s p).2.2 = (nV s : Int) := listT_len _ _
  have e1 : (clampV s p).1 = cycV s p := rfl
  have e2 : (clampV s p).2.1 = offV s p := rfl
  refine ⟨⟨by rw [e1]; omega, by unfold llen at hlen; unfold maxLen; omega, fun m hm => ?_⟩, by rw [e2]; omega⟩
  obtain ⟨j, hj⟩ := mem_idx hm
  obtain ⟨j0, j1, _⟩ := idx_some_iff hj
  have h1 := hok.split j.toNat (by omega)
  rw [show ((j.toNat : Nat) : Int) = j by omega] at h1
  have hel : el (clampV s p).2.2 j = m := by unfold el; rw [hj]; rfl
  rw [hel] at h1
  have hn := needs_in hx h j0 (by rw [← hnl, ← hlen]; exact j1)
  have h2 := left_sum (clampV s p) j.toNat
  have h3 : 0 ≤ sumT (fun i => el (clampV s p).2.2 i) j.toNat := by
    have e : sumT (fun i => el (clampV s p).2.2 i) j.toNat = sumT (splitV s p) j.toNat := sumT_congr (n := nV s) (fun k hk => clamp_el (by omega) (by omega)) j.toNat (by omega)
    rw [e]
    have := sumT_mono (f := splitV s p) (n := nV s) (k := 0) (fun k hk => by
      have := needs_in hx h (i := (k : Int)) (by omega) (by rw [← hnl]; omega)
      have := split_ge (p := p) hx h (j := (k : Int)) (by omega) (by omega)
      omega) j.toNat (by omega) (by omega)
    exact this
  omega

theorem sitePlan_e {s : PSSite} {p : PSPlan} (hx : SFits s) (h : SiteOK s) (hc : site_Check_t s = some 0) (hp : PFits p) : ∃ b, site_Plan_t (s, p) = some (b, 0) ∧ (b = true ↔ PlanOK s p) := by
  unfold site_Plan_t
  obtain ⟨b, h1, h2⟩ := fits_s hx h.shape h.apart h.phased h.timed hp
  exact ⟨b, by rw [elimO_eq _ _ hc, cnd_neg (b := !((0 : Int) == 0)) _ _ rfl, elimO_eq _ _ h1], h2⟩

end Go.Proofs.YtfdnmjabjmedgaaDoor
