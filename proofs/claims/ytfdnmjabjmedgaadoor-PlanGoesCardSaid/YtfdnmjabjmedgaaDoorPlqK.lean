/- Part of a proof: plain readings of Go functions, their contracts, or plain facts of them. -/
import Derived.Test.YtfdnmjabjmedgaaDoorPlqO
namespace Go.Proofs.YtfdnmjabjmedgaaDoor
open Go.Den

/-! # Whose part of the cycle a tick is in -/
/-- where the k-th part begins -/
def endV (p : PSPlan) (k : Nat) : Int := sumT (fun i => el p.2.2 i) k
theorem endV_succ (p : PSPlan) (k : Nat) : endV p (k + 1) = endV p k + el p.2.2 (k : Int) := rfl

/-- the numbers of a plan that may be -/
structure PNums (s : PSSite) (p : PSPlan) : Prop where
  cyc : 1 ≤ p.1 ∧ p.1 ≤ 1048576
  off : 0 ≤ p.2.1 ∧ p.2.1 < p.1
  n : 1 ≤ nV s ∧ nV s ≤ 8
  len : p.2.2.length = nV s
  needs : ∀ k : Nat, k < nV s → 1 ≤ needsV s (k : Int) ∧ needsV s (k : Int) ≤ el p.2.2 (k : Int)
  ends : ∀ k, k ≤ nV s → 0 ≤ endV p k ∧ endV p k ≤ p.1
  all : endV p (nV s) = p.1

theorem pnums {s : PSSite} {p : PSPlan} (hx : SFits s) (h : SiteOK s) (hp : PlanOK s p) : PNums s p := by
  have N := clampNums hx h p
  obtain ⟨l1, l2, l3⟩ := N.low
  have hnl : ((nV s : Nat) : Int) = llen s.2.2.2.2.1 := rfl
  have hplen : llen p.2.2 = (nV s : Int) := hp.len
  have hplen' : p.2.2.length = nV s := by unfold llen at hplen; omega
  obtain ⟨c1, c2⟩ := hp.cycle
  obtain ⟨o1, o2⟩ := hp.offset
  have hc1 : lowV s ≤ p.1 := c1
  have hc2 : p.1 ≤ highV s := c2
  have hn : ∀ k : Nat, k < nV s → 1 ≤ needsV s (k : Int) ∧ needsV s (k : Int) ≤ el p.2.2 (k : Int) := fun k hk => by
    have h1 := hp.split k (by omega)
    have h2 := needs_in hx h (i := (k : Int)) (by omega) (by rw [← hnl]; omega)
    exact ⟨h2.1, h1.1⟩
  have hall : endV p (nV s) = p.1 := by
    have := hp.all
    rw [hplen', left_sum] at this
    unfold endV; omega
  have hpos : ∀ k : Nat, k < nV s → 0 ≤ (fun i => el p.2.2 i) (k : Int) := fun k hk => by
    have := hn k hk
    simp only; omega
  refine ⟨by omega, by omega, N.n, hplen', hn, fun k hk => ⟨?_, ?_⟩, hall⟩
  · exact sumT_mono (k := 0) hpos k hk (by omega)
  · rw [← hall]; exact sumT_mono hpos (nV s) (Nat.le_refl _) hk

theorem at_ends_e {s : PSSite} {p : PSPlan} (N : PNums s p) : ∀ k, k ≤ nV s → at_ends p.2.2 k = endV p k
  | 0, _ => rfl
  | k + 1, hk => by
    have e := N.ends (k + 1) hk
    rw [at_ends, at_ends_e N k (by omega), endV_succ]
    have : (p.2.2[k]?).getD 0 = el p.2.2 (k : Int) := by
      unfold el; rw [idx_nat (by omega)]; rfl
    rw [this, wr_i64 _ (by rw [endV_succ] at e; have := N.cyc; omega) (by rw [endV_succ] at e; have := N.cyc; omega)]

def IsPart (p : PSPlan) (k : Nat) (x : Int) : Prop := endV p k ≤ x ∧ x < endV p (k + 1)
theorem ends_mono {s : PSSite} {p : PSPlan} (N : PNums s p) {j k : Nat} (hk : k ≤ nV s) (h : j ≤ k) : endV p j ≤ endV p k :=
  sumT_mono (fun i hi => by have := N.needs i hi; show 0 ≤ el p.2.2 (i : Int); omega) k hk h
theorem part_ex {s : PSSite} {p : PSPlan} (N : PNums s p) {x : Int} (x0 : 0 ≤ x) (x1 : x < p.1) : ∃ k : Nat, k < nV s ∧ IsPart p k x := by
  have : ∀ m, m ≤ nV s → x < endV p m → ∃ k : Nat, k < m ∧ IsPart p k x := by
    intro m
    induction m with
    | zero => intro _ h; simp [endV, sumT] at h; omega
    | succ m ih =>
      intro hm h
      by_cases c : x < endV p m
      · obtain ⟨k, hk, h2⟩ := ih (by omega) c
        exact ⟨k, by omega, h2⟩
      · exact ⟨m, by omega, by omega, h⟩
  obtain ⟨k, hk, h⟩ := this (nV s) (Nat.le_refl _) (by rw [N.all]; exact x1)
  exact ⟨k, hk, h⟩
theorem part_unique {s : PSSite} {p : PSPlan} (N : PNums s p) {x : Int} {j k : Nat} (hj : j < nV s) (hk : k < nV s) (h1 : IsPart p j x) (h2 : IsPart p k x) : j = k := by
  obtain ⟨a, b⟩ := h1
  obtain ⟨c, d⟩ := h2
  rcases Nat.lt_trichotomy j k with h | h | h
  · have := ends_mono N (j := j + 1) (k := k) (by omega) (by omega); omega
  · exact h
  · have := ends_mono N (j := k + 1) (k := j) (by omega) (by omega); omega

theorem go_skip {l : List Int} {pl : Int} : ∀ (n k j : Nat), k ≤ j → j < k + n → (∀ i, k ≤ i → i < j → ¬ pl < at_ends l (i + 1)) → pl < at_ends l (j + 1) → at_go l pl n k = ((j : Int), (wr .i64 (wr .i64 (pl - at_ends l (j + 1)) + (l[j]?).getD 0), 0))
  | 0, k, j, h1, h2, _, _ => by omega
  | n + 1, k, j, h1, h2, hno, hy => by
    rw [at_go]
    by_cases e : k = j
    · subst e; rw [if_pos hy]
    · rw [if_neg (hno k (Nat.le_refl _) (by omega))]
      exact go_skip n (k + 1) j (by omega) (by omega) (fun i hi hj => hno i (by omega) hj) hy

theorem at_go_e {s : PSSite} {p : PSPlan} (N : PNums s p) {x : Int} {k : Nat} (hk : k < nV s) (h : IsPart p k x) : at_go p.2.2 x p.2.2.length 0 = ((k : Int), (x - endV p k, 0)) := by
  have e1 := N.ends k (by omega)
  have e2 := N.ends (k + 1) (by omega)
  have c := N.cyc
  obtain ⟨h1, h2⟩ := h
  rw [go_skip p.2.2.length 0 k (by omega) (by rw [N.len]; omega) (fun i _ hi => by
    rw [at_ends_e N (i + 1) (by omega)]
    have := ends_mono N (j := i + 1) (k := k) (by omega) (by omega)
    omega) (by rw [at_ends_e N (k + 1) (by omega)]; exact h2), at_ends_e N (k + 1) (by omega)]
  have : (p.2.2[k]?).getD 0 = el p.2.2 (k : Int) := by
    unfold el; rw [idx_nat (by omega)]; rfl
  rw [this]
  rw [endV_succ] at e2 h2 ⊢
  rw [wr_i64 (x - (endV p k + el p.2.2 (k : Int))) (by omega) (by omega), wr_i64 _ (by omega) (by omega)]
  congr 2
  omega

/-- the place in the cycle -/
def placeV (p : PSPlan) (t : Int) : Int := (t + p.1 - p.2.1) % p.1
theorem place_in {s : PSSite} {p : PSPlan} (N : PNums s p) (t : Int) : 0 ≤ placeV p t ∧ placeV p t < p.1 := by
  have c := N.cyc
  exact ⟨Int.emod_nonneg _ (by omega), Int.emod_lt_of_pos _ (by omega)⟩
theorem mod_of {c q r x : Int} (hx : x = r + c * q) (h0 : 0 ≤ r) (h1 : r < c) : x % c = r := by
  rw [hx, Int.add_mul_emod_self_left, Int.emod_eq_of_lt h0 h1]
theorem place_add {s : PSSite} {p : PSPlan} (N : PNums s p) (t : Int) {i : Int} (i0 : 0 ≤ i) (i1 : i < p.1) : placeV p (t + i) = if placeV p t + i < p.1 then placeV p t + i else placeV p t + i - p.1 := by
  obtain ⟨a, b⟩ := place_in N t
  have h := Int.emod_add_mul_ediv (t + p.1 - p.2.1) p.1
  have hq : placeV p t + p.1 * ((t + p.1 - p.2.1) / p.1) = t + p.1 - p.2.1 := h
  generalize (t + p.1 - p.2.1) / p.1 = q at hq
  split
  · rename_i c
    exact mod_of (q := q) (by omega) (by omega) c
  · rename_i c
    refine mod_of (q := q + 1) ?_ (by omega) (by omega)
    rw [Int.mul_add]; omega
theorem place_zero (p : PSPlan) (t : Int) : placeV p (t + p.1) = placeV p t := by
  show (t + p.1 + p.1 - p.2.1) % p.1 = (t + p.1 - p.2.1) % p.1
  rw [show t + p.1 + p.1 - p.2.1 = (t + p.1 - p.2.1) + p.1 * 1 by omega, Int.add_mul_emod_self_left]

theorem sitePlan_bad {s : PSSite} {p : PSPlan} {e : Int} (hc : site_Check_t s = some e) (h0 : e ≠ 0) : site_Plan_t (s, p) = some (false, e) := by
  unfold site_Plan_t
  rw [elimO_eq _ _ hc, cnd_pos _ _ (by simp [h0])]

theorem at_bad {s : PSSite} {p : PSPlan} {t e : Int} (hc : site_Check_t s = some e) (h0 : e ≠ 0) : plan_At_t (s, (p, t)) = some (0, (0, e)) := by
  unfold plan_At_t
  simp only [sitePlan_bad hc h0]
  rw [if_pos h0]
theorem at_no {s : PSSite} {p : PSPlan} {t : Int} (hx : SFits s) (h : SiteOK s) (hc : site_Check_t s = some 0) (hp : PFits p) (hn : ¬ PlanOK s p) : plan_At_t (s, (p, t)) = some (0, (0, 170)) := by
  obtain ⟨b, h1, h2⟩ := sitePlan_e hx h hc hp
  have hb : b = false := by
    cases b with
    | false => rfl
    | true => exact absurd (h2.1 rfl) hn
  subst hb
  unfold plan_At_t
  simp only [h1]
  rw [if_neg (by simp), if_pos trivial]
theorem at_far {s : PSSite} {p : PSPlan} {t : Int} (hx : SFits s) (h : SiteOK s) (hc : site_Check_t s = some 0) (hp : PFits p) (hok : PlanOK s p) (ht : t < 0 ∨ 1073741824 < t) : plan_At_t (s, (p, t)) = some (0, (0, 2)) := by
  obtain ⟨b, h1, h2⟩ := sitePlan_e hx h hc hp
  have hb : b = true := h2.2 hok
  subst hb
  unfold plan_At_t
  simp only [h1]
  rw [if_neg (by simp), if_neg (by simp), if_pos ht]
theorem at_e {s : PSSite} {p : PSPlan} {t : Int} (hx : SFits s) (h : SiteOK s) (hc : site_Check_t s = some 0) (hp : PFits p) (hok : PlanOK s p) (t0 : 0 ≤ t) (t1 : t ≤ 1073741824) :
    ∃ k : Nat, k < nV s ∧ IsPart p k (placeV p t) ∧ plan_At_t (s, (p, t)) = some ((k : Int), (placeV p t - endV p k, 0)) := by
  have N := pnums hx h hok
  obtain ⟨a, b⟩ := place_in N t
  obtain ⟨k, hk, hpt⟩ := part_ex N a b
  refine ⟨k, hk, hpt, ?_⟩
  have c := N.cyc
  have o := N.off
  obtain ⟨b, h1, h2⟩ := sitePlan_e hx h hc hp
  have hb : b = true := h2.2 hok
  subst hb
  have hpl : irem (wr .i64 (wr .i64 (t + p.1) - p.2.1)) p.1 = placeV p t := by
    rw [wr_i64 (t + p.1) (by omega) (by omega), wr_i64 _ (by omega) (by omega)]
    exact Int.tmod_eq_emod_of_nonneg (by omega)
  unfold plan_At_t
  simp only [h1]
  have hln : llen p.2.2 = (nV s : Int) := by unfold llen; rw [N.len]
  have := N.n
  rw [if_neg (by simp), if_neg (by simp), if_neg (by omega), if_neg (by omega), hpl, at_go_e N hk hpt]

end Go.Proofs.YtfdnmjabjmedgaaDoor
