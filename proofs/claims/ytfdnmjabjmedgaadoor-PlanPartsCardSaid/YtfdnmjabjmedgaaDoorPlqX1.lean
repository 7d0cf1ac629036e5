/- Part of a proof: plain readings of Go functions, their contracts, or plain facts of them. -/
import Derived.Test.YtfdnmjabjmedgaaDoorPlqK
namespace Go.Proofs.YtfdnmjabjmedgaaDoor
open Go.Den

/-! # In as many ticks as the cycle has each part has as many as its split -/
/-- how many places below x are the k-th part's -/
def below (p : PSPlan) (x : Int) (k : Nat) : Int := min (max (x - endV p k) 0) (el p.2.2 (k : Int))
/-- how many of the first i ticks are the k-th part's -/
def cntV (p : PSPlan) (x i : Int) (k : Nat) : Int := if x + i ≤ p.1 then below p (x + i) k - below p x k else below p p.1 k - below p x k + below p (x + i - p.1) k

theorem below_step {s : PSSite} {p : PSPlan} (N : PNums s p) {x : Int} {j k : Nat} (hj : j < nV s) (hk : k < nV s) (h : IsPart p j x) : below p (x + 1) k = below p x k + if k = j then 1 else 0 := by
  obtain ⟨a, b⟩ := h
  have n1 := N.needs k hk
  rw [endV_succ] at b
  unfold below
  rcases Nat.lt_trichotomy k j with c | c | c
  · have := ends_mono N (j := k + 1) (k := j) (by omega) (by omega)
    rw [endV_succ] at this
    rw [if_neg (by omega)]; omega
  · subst c
    rw [if_pos rfl]; omega
  · have := ends_mono N (j := j + 1) (k := k) (by omega) (by omega)
    rw [endV_succ] at this
    rw [if_neg (by omega)]; omega
theorem below_all {s : PSSite} {p : PSPlan} (N : PNums s p) {k : Nat} (hk : k < nV s) : below p p.1 k = el p.2.2 (k : Int) := by
  have n1 := N.needs k hk
  have e := N.ends (k + 1) (by omega)
  rw [endV_succ] at e
  unfold below; omega
theorem below_zero {s : PSSite} {p : PSPlan} (N : PNums s p) {k : Nat} (hk : k < nV s) : below p 0 k = 0 := by
  have n1 := N.needs k hk
  have e := N.ends k (by omega)
  unfold below; omega
theorem below_in {s : PSSite} {p : PSPlan} (N : PNums s p) {k : Nat} (hk : k < nV s) (x : Int) : 0 ≤ below p x k ∧ below p x k ≤ 1048576 := by
  have n1 := N.needs k hk
  have e := N.ends (k + 1) (by omega)
  have e0 := N.ends k (by omega)
  have c := N.cyc
  rw [endV_succ] at e
  unfold below; omega

theorem cnt_zero (p : PSPlan) {x : Int} (h : x < p.1) (k : Nat) : cntV p x 0 k = 0 := by
  unfold cntV
  rw [if_pos (by omega), Int.add_zero, Int.sub_self]
theorem cnt_step {s : PSSite} {p : PSPlan} (N : PNums s p) {x i : Int} {j k : Nat} (hj : j < nV s) (hk : k < nV s) (h : IsPart p j (if x + i < p.1 then x + i else x + i - p.1)) :
    cntV p x (i + 1) k = cntV p x i k + if k = j then 1 else 0 := by
  unfold cntV
  by_cases c : x + i < p.1
  · rw [if_pos c] at h
    have := below_step N hj hk h
    rw [if_pos (by omega), if_pos (by omega), show x + (i + 1) = x + i + 1 by omega]
    omega
  · rw [if_neg c] at h
    have hs := below_step N hj hk h
    rw [if_neg (show ¬ x + (i + 1) ≤ p.1 by omega), show x + (i + 1) - p.1 = x + i - p.1 + 1 by omega]
    by_cases d : x + i ≤ p.1
    · rw [if_pos d]
      have e : x + i = p.1 := by omega
      have z := below_zero N hk
      rw [show x + i - p.1 = 0 by omega] at hs ⊢
      rw [e]; omega
    · rw [if_neg d]; omega
theorem cnt_all {s : PSSite} {p : PSPlan} (N : PNums s p) {x : Int} {k : Nat} (x0 : 0 ≤ x) (hk : k < nV s) : cntV p x p.1 k = el p.2.2 (k : Int) := by
  have a := below_all N hk
  have z := below_zero N hk
  unfold cntV
  by_cases c : x + p.1 ≤ p.1
  · have : x = 0 := by omega
    subst this
    rw [if_pos c, Int.zero_add]; omega
  · rw [if_neg c, show x + p.1 - p.1 = x by omega]; omega
theorem cnt_in {s : PSSite} {p : PSPlan} (N : PNums s p) {x i : Int} {k : Nat} (hk : k < nV s) : -2097152 ≤ cntV p x i k ∧ cntV p x i k ≤ 3145728 := by
  have a := below_in N hk x
  have b := below_in N hk (x + i)
  have c := below_in N hk p.1
  have d := below_in N hk (x + i - p.1)
  unfold cntV
  split <;> omega

theorem idxN_eq {α : Type} {l : List α} {n i : Int} (h : llen l = n) : idxN l n i = idx l i := by unfold idxN; rw [if_pos h]

theorem planParts_law (x : PSSite × PSPlan × Int) (hf : FitsAll [SSite, SPlan, I64] x) : law17_PlanParts_t x = some true := by
  obtain ⟨s, p, t⟩ := x
  have hx : SFits s := sfits hf.1
  have hp : PFits p := ⟨hf.2.1.1, hf.2.1.2.2.1, fun m hm => hf.2.1.2.2.2 m hm⟩
  unfold law17_PlanParts_t
  rw [show law17_alive_t () = some true from rfl, elimO_eq _ _ rfl]
  obtain ⟨g, hg⟩ := great_s s hx
  rw [elimO_eq _ _ hg, cnd_if]
  split
  · rfl
  rename_i hc0
  simp only [Bool.or_eq_true, decide_eq_true_eq, Bool.not_eq_true', not_or, Bool.true_eq_false] at hc0
  obtain ⟨⟨⟨⟨_, _⟩, hcy⟩, ht0⟩, ht1⟩ := hc0.1
  obtain ⟨e, h2, h3⟩ := check_s hx
  by_cases h0 : e = 0
  · subst h0
    have h := check_ok h3 rfl
    by_cases hok : PlanOK s p
    · have N := pnums hx h hok
      obtain ⟨k0, _, _, ha⟩ := at_e hx h h2 hp hok (t := t) (by omega) (by omega)
      rw [elimO_eq _ _ ha, cnd_neg (b := !((0 : Int) == 0)) _ _ rfl]
      obtain ⟨q0, q1⟩ := place_in N t
      have c1 := N.cyc
      have n1 := N.n
      have hln : llen p.2.2 = (nV s : Int) := by unfold llen; rw [N.len]
      refine iter_up (fun z : Int × List Int => z.1) p.1 (fun z => llen z.2 = 8 ∧ ∀ k : Nat, k < nV s → idx z.2 (k : Int) = some (cntV p (placeV p t) z.1 k)) (fun r => r = some true) (by omega) (by omega) (by omega) ?_ (fun z hI i0 i1 => ?_) (fun z hI hz => ?_)
      · refine ⟨rfl, fun k hk => ?_⟩
        rw [cnt_zero p q1]
        show idx (lrep 8 0) (k : Int) = _
        unfold lrep
        rw [idx_nat (by omega), List.getElem?_replicate, if_pos (by omega)]
      · obtain ⟨i, many⟩ := z
        obtain ⟨hl, hm⟩ := hI
        simp only at i0 i1 hl hm
        try simp only
        obtain ⟨j, hj, hpt, hat⟩ := at_e hx h h2 hp hok (t := t + i) (by omega) (by omega)
        have hpl := place_add N t i0 i1
        rw [hpl] at hpt
        have hpt2 := hpt
        obtain ⟨b1, b2⟩ := hpt2
        rw [endV_succ] at b2
        rw [cnd_pos _ _ (decide_eq_true i1), wr_i64 (t + i) (by omega) (by omega), elimO_eq _ _ hat]
        try simp only
        have hidx := idx_el (l := p.2.2) (i := (j : Int)) (by omega) (by omega)
        have hmj := hm j hj
        have hcn := cnt_in N (x := placeV p t) (i := i) hj
        rw [hpl, cnd_neg _ _ (by
          rw [hln]
          apply Bool.eq_false_iff.2
          intro hh
          simp at hh
          omega), elimO_eq _ _ hidx, cnd_neg _ _ (decide_eq_false (by omega)), idxN_eq hl, elimO_eq _ _ hmj, elimO_eq _ _ hmj, elimO_eq _ _ hmj, elimO_eq _ _ hmj, wr_i64 (i + 1) (by omega) (by omega), wr_i64 (cntV p (placeV p t) i j + 1) (by omega) (by omega)]
        refine ⟨rfl, by (try simp only); rw [llen_lset]; exact hl, fun k hk => ?_⟩
        show idx (lset many (j : Int) _) (k : Int) = some (cntV p (placeV p t) (i + 1) k)
        rw [idx_lset (by omega) (by omega), cnt_step N hj hk hpt]
        by_cases ek : k = j
        · subst ek; rw [if_pos rfl, if_pos rfl]
        · rw [if_neg (by omega), if_neg ek, Int.add_zero]; exact hm k hk
      · obtain ⟨i, many⟩ := z
        obtain ⟨hl, hm⟩ := hI
        simp only at hz hl hm
        subst hz
        try simp only
        rw [cnd_neg _ _ (decide_eq_false (by omega))]
        show iter _ _ _ _ = _
        refine iter_up (fun z : Int × List Int => z.1) (nV s : Int) (fun z => z.2 = many) (fun r => r = some true) (by omega) (by omega) (by omega) rfl (fun z hI i0 i1 => ?_) (fun z hI hz => ?_)
        · obtain ⟨k, ml⟩ := z
          simp only at i0 i1 hI
          subst hI
          try simp only
          have hmk := hm k.toNat (by omega)
          have hkk : ((k.toNat : Nat) : Int) = k := by omega
          rw [hkk] at hmk
          have hidx := idx_el (l := p.2.2) (i := k) (by omega) (by omega)
          have hca := cnt_all N (x := placeV p t) (k := k.toNat) q0 (by omega)
          rw [hkk] at hca
          rw [hca] at hmk
          rw [cnd_pos _ _ (decide_eq_true (by omega)), idxN_eq hl, elimO_eq _ _ hmk, elimO_eq _ _ hmk, elimO_eq _ _ hidx, cnd_neg _ _ (by simp), wr_i64 (k + 1) (by omega) (by omega)]
          exact ⟨rfl, rfl⟩
        · obtain ⟨k, ml⟩ := z
          simp only at hz hI
          subst hz
          try simp only
          rw [cnd_neg _ _ (decide_eq_false (by omega))]
          exact rfl
    · rw [elimO_eq _ _ (at_no hx h h2 hp hok)]
      rfl
  · rw [elimO_eq _ _ (at_bad h2 h0), cnd_pos _ _ (by simp [h0])]

end Go.Proofs.YtfdnmjabjmedgaaDoor
