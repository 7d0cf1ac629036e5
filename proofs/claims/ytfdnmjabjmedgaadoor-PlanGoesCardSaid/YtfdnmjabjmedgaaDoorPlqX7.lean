/- Part of a proof: plain readings of Go functions, their contracts, or plain facts of them. -/
import Derived.Test.YtfdnmjabjmedgaaDoorPlqX6
namespace Go.Proofs.YtfdnmjabjmedgaaDoor
open Go.Den

/-! # The plan next to any one, whose part, and what is wanted, are the document's -/
theorem goes_loop {l : List Int} {b : Int × Int} {K : Option Bool} (hl : llen l ≤ 1000) (hK : K = some true) :
    iter none (fun x9 : Int × (Int × Int) × List Int × Unit =>
      cnd (decide (x9.1 < llen x9.2.2.1)) (elimO (idx x9.2.2.1 x9.1) (.done none) (fun _ => elimO (idx x9.2.2.1 x9.1) (.done none) (fun _ => .next (wr .i64 (x9.1 + 1), (x9.2.1, (lset x9.2.2.1 x9.1 (-77), ())))))) (.done K)) lots (0, (b, (l, ()))) = some true := by
  have h0 : 0 ≤ llen l := llen_nonneg l
  refine iter_up (fun z : Int × (Int × Int) × List Int × Unit => z.1) (llen l) (fun z => llen z.2.2.1 = llen l) (fun r => r = some true) (by omega) (by simp) h0 rfl (fun z hI i0 i1 => ?_) (fun z hI hz => ?_)
  · obtain ⟨i, b, m, u⟩ := z
    simp only at hI i0 i1
    have hx := idx_el (l := m) i0 (by omega)
    try simp only
    rw [cnd_pos _ _ (decide_eq_true (by omega)), elimO_eq _ _ hx, elimO_eq _ _ hx, wr_i64 (i + 1) (by omega) (by omega)]
    exact ⟨rfl, by (try simp only); rw [llen_lset]; exact hI⟩
  · obtain ⟨i, b, m, u⟩ := z
    simp only at hI hz
    try simp only
    rw [cnd_neg _ _ (decide_eq_false (by omega))]
    exact hK

theorem planGoes_law (x : PSSite × PSPlan × Int) (hf : FitsAll [SSite, SPlan, I64] x) : law17_PlanGoes_t x = some true := by
  obtain ⟨s, p, t⟩ := x
  have hx : SFits s := sfits hf.1
  have hp : PFits p := ⟨hf.2.1.1, hf.2.1.2.2.1, fun m hm => hf.2.1.2.2.2 m hm⟩
  have ho : -9223372036854775808 ≤ p.2.1 ∧ p.2.1 ≤ 9223372036854775807 := hf.2.1.2.1
  unfold law17_PlanGoes_t
  obtain ⟨g, hg⟩ := great_s s hx
  rw [elimO_eq _ _ hg, cnd_if]
  split
  · rfl
  rename_i hc0
  simp only [Bool.or_eq_true, decide_eq_true_eq, not_or] at hc0
  have hlen : llen p.2.2 ≤ 100 := by omega
  obtain ⟨e, h2, h3⟩ := check_s hx
  have hok : e = 0 → SiteOK s := fun h => check_ok h3 h
  have h2r : ref05_Check_t s = some e := by rw [refCheck_eq hx]; exact h2
  have hmax : p.2.2.length ≤ maxLen := hp.2.1
  have hA := refAt_e (t := t) hx hok h2 h2r hp
  obtain ⟨hW, rW, hWr⟩ := refWants17_e (t := t) hx hok h2 h2r hp
  obtain ⟨rA, hAr⟩ : ∃ r, plan_At_t (s, (p, t)) = some r := by
    by_cases h0 : e = 0
    · subst h0
      by_cases hpk : PlanOK s p
      · by_cases ht : t < 0 ∨ 1073741824 < t
        · exact ⟨_, at_far hx (hok rfl) h2 hp hpk ht⟩
        · obtain ⟨k, _, _, h⟩ := at_e hx (hok rfl) h2 hp hpk (t := t) (by omega) (by omega)
          exact ⟨_, h⟩
      · exact ⟨_, at_no hx (hok rfl) h2 hp hpk⟩
    · exact ⟨_, at_bad h2 h0⟩
  rw [hAr] at hA
  rw [hWr] at hW
  have hS0 : ref17_Same_t (p, p) = some true := refSame_refl hmax
  have hroom : (true && roomOK (0 + llen p.2.2) 8) = true := by
    rw [Bool.true_and]; exact room_le (by omega)
  try simp only
  simp only [List.nil_append]
  rw [cnd_pos _ _ hroom, elimO_eq _ _ h2]
  by_cases h0 : e = 0
  · subst h0
    have hrest : ∀ b : Int × Int, elimO (ref17_Clamp_t (s, p)) none (fun x9 =>
(elimO (plan_At_t (s, (p, t))) none (fun x10 =>
(elimO (ref17_At_t (s, (p, t))) none (fun x11 =>
(elimO (plan_Wants_t (s, (p, t))) none (fun x12 =>
(elimO (ref17_Wants_t (s, (p, t))) none (fun x13 =>
(elimO (ref17_Same_t (clampV s p, x9.1)) none (fun x14 =>
(iter none (fun x15 : Int × (Int × Int) × List Int × Unit =>
(cnd (decide (x15.1 < (llen x15.2.2.1)))
(elimO (idx x15.2.2.1 x15.1) (.done none) (fun _ =>
(elimO (idx x15.2.2.1 x15.1) (.done none) (fun _ =>
(.next ((wr .i64 (x15.1 + 1)), (x15.2.1, ((lset x15.2.2.1 x15.1 (-77)), ()))))))))
(.done (cnd ((((((x14 && (0 == x9.2)) && (x10.1 == x11.1)) && (x10.2.1 == x11.2.1)) && (x10.2.2 == x11.2.2)) && (x12.1 == x13.1)) && (x12.2 == x13.2))
(elimO (ref17_Same_t (p, p)) none (fun x16 =>
(some x16)))
(some false))))) lots (0, (b, ((clampV s p).2.2, ()))))))))))))))) = some true := fun b => by
      have hS := hok rfl
      have hcf := clamp_fits (p := p) hx hS
      have hcl : ref17_Clamp_t (s, p) = some (clampV s p, 0) := by
        unfold ref17_Clamp_t
        rw [elimO_eq _ _ h2r, cnd_neg (b := !((0 : Int) == 0)) _ _ rfl, elimO_eq _ _ (refNear_e hx hS hp.2.2)]
      rw [elimO_eq _ _ hcl, elimO_eq _ _ hAr, elimO_eq _ _ hA, elimO_eq _ _ hWr, elimO_eq _ _ hW, elimO_eq _ _ (refSame_refl hcf.1.2.1)]
      refine goes_loop ?_ ?_
      · have : llen (clampV s p).2.2 = (nV s : Int) := listT_len _ _
        have := (clampNums hx hS p).n
        omega
      · rw [cnd_pos _ _ (by simp), elimO_eq _ _ hS0]
    have hrest := hrest (cycV s p, offV s p)
    have h := hok rfl
    have N := clampNums hx h p
    obtain ⟨l1, l2, l3⟩ := N.low
    obtain ⟨c1, c2⟩ := N.cyc
    obtain ⟨n1, n2⟩ := N.n
    have hnl : ((nV s : Nat) : Int) = llen s.2.2.2.2.1 := rfl
    have hcy : min (max p.1 s.2.2.2.2.2.2.2.2.2.1) s.2.2.2.2.2.2.2.2.2.2.1 = cycV s p := rfl
    have htm := Int.tmod_lt_of_pos p.2.1 (b := cycV s p) (by omega)
    have htn : -(cycV s p) < p.2.1.tmod (cycV s p) := tmod_gt p.2.1 (by omega)
    have hof : irem (wr .i64 ((irem p.2.1 (cycV s p)) + cycV s p)) (cycV s p) = offV s p := by
      show (wr .i64 (p.2.1.tmod (cycV s p) + cycV s p)).tmod (cycV s p) = _
      rw [wr_i64 _ (by omega) (by omega)]; rfl
    have hcz : (!(cycV s p == 0)) = true := by simp; omega
    rw [cnd_neg (b := !((0 : Int) == 0)) _ _ rfl]
    simp only [gmin_eq, gmax_eq, hcy, hof]
    rw [cnd_pos _ _ hcz, cnd_pos _ _ hcz, cnd_pos _ _ (make_ok (by omega) (by omega))]
    refine iter_up (fun z : St1 => z.1) (nV s : Int) (fun z => z.2.1 = cycV s p - roundTo s z.1.toNat ∧ z.2.2.1 = sumT (wishV s p) z.1.toNat ∧ z.2.2.2.1 = firstT (wishV s p) z.1.toNat ∧ z.2.2.2.2.1 = ((cycV s p, offV s p), (listT (needsV s) z.1.toNat, ())) ∧ llen z.2.2.2.2.2 = (nV s : Int) ∧ (∀ j, 0 ≤ j → j < z.1 → idx z.2.2.2.2.2 j = some (wishV s p j)) ∧ ∀ j, z.1 ≤ j → j < (nV s : Int) → idx z.2.2.2.2.2 j = some 0) (fun r => r = some true) (by omega) (by simp) (by simp only; omega) ⟨by simp [roundTo], rfl, rfl, rfl, llen_lrep (by omega) _, fun j j0 j1 => absurd j1 (by simp only; omega), fun j j0 j1 => idx_lrep j0 (by rw [← hnl]; exact j1) _⟩ (fun z hI i0 i1 => ?_) (fun z hI hz => ?_)
    · obtain ⟨i, rest, all, first, bx, ws⟩ := z
      obtain ⟨hr, ha, hf, hb, hwl, hws, hw0⟩ := hI
      simp only at i0 i1 hr ha hf hb hwl hws hw0
      subst hr ha hf hb
      have hph := idx_el (l := s.2.2.2.2.1) i0 (by rw [← hnl]; exact i1)
      have hni := needs_in hx h i0 (by rw [← hnl]; exact i1)
      have hmin := (h.phased.1 i _ hph).min
      have hle : wr .i64 ((el s.2.2.2.2.1 i).2.1 + (needsV s i - (el s.2.2.2.2.1 i).2.1)) = needsV s i := by
        rw [wr_i64 _ (by omega) (by omega)]; omega
      have hwi := N.wish i i0 i1
      have hro := N.round i.toNat (by omega)
      have hal := N.all i.toNat (by omega)
      have hll := listT_len (needsV s) i.toNat
      have hwi0 := hw0 i (Int.le_refl _) i1
      have hsucc : (i + 1).toNat = i.toNat + 1 := by omega
      have hti : ((i.toNat : Nat) : Int) = i := by omega
      try simp only
      rw [cnd_pos _ _ (decide_eq_true (by rw [← hnl]; exact i1)), elimO_eq _ _ hph, elimO_eq _ _ (pclear_e hx h h2 hph)]
      simp only [hle]
      rw [joinPt_app]
      have fin : ∀ ws' : List Int, llen ws' = (nV s : Int) → (∀ j, 0 ≤ j → j < i + 1 → idx ws' j = some (wishV s p j)) → (∀ j, i + 1 ≤ j → j < (nV s : Int) → idx ws' j = some 0) → UpRound (fun z : St1 => z.1) (fun z => z.2.1 = cycV s p - roundTo s z.1.toNat ∧ z.2.2.1 = sumT (wishV s p) z.1.toNat ∧ z.2.2.2.1 = firstT (wishV s p) z.1.toNat ∧ z.2.2.2.2.1 = ((cycV s p, offV s p), (listT (needsV s) z.1.toNat, ())) ∧ llen z.2.2.2.2.2 = (nV s : Int) ∧ (∀ j, 0 ≤ j → j < z.1 → idx z.2.2.2.2.2 j = some (wishV s p j)) ∧ ∀ j, z.1 ≤ j → j < (nV s : Int) → idx z.2.2.2.2.2 j = some 0) (fun r : Option Bool => r = some true) i (.next (i + 1, (cycV s p - roundTo s i.toNat - needsV s i, (sumT (wishV s p) i.toNat + wishV s p i, ((if 0 < wishV s p i ∧ firstT (wishV s p) i.toNat < 0 then i else firstT (wishV s p) i.toNat), (((cycV s p, offV s p), (listT (needsV s) i.toNat ++ [needsV s i], ())), ws')))))) := fun ws' a1 a2 a3 => by
        refine ⟨rfl, ?_, ?_, ?_, ?_, a1, a2, a3⟩
        · simp only; rw [hsucc, roundTo, hti]; omega
        · simp only; rw [hsucc, sumT, hti]
        · simp only; rw [hsucc, firstT, hti]
        · simp only; rw [hsucc, listT_succ, hti]
      by_cases c : i < llen p.2.2
      · have hsp := idx_el (l := p.2.2) i0 c
        have hwv : max 0 (wr .i64 (min (max 0 (el p.2.2 i)) s.2.2.2.2.2.2.2.2.2.2.1 - needsV s i)) = wishV s p i := by
          have hh : highV s = s.2.2.2.2.2.2.2.2.2.2.1 := rfl
          rw [wr_i64 _ (by omega) (by omega)]
          unfold wishV
          rw [if_pos c]; rfl
        rw [cnd_pos _ _ (decide_eq_true c), elimO_eq _ _ hsp, elimO_eq _ _ hwi0, elimO_eq _ _ hwi0]
        simp only [hwv]
        have hset : ∀ j, idx (lset ws i (wishV s p i)) j = if j = i then some (wishV s p i) else idx ws j := fun j => idx_lset i0 (by omega) _ j
        rw [clamp_tail (w := wishV s p i) ⟨i0, by omega⟩ (by rw [hset, if_pos rfl]) (by omega) (by omega) (by omega)]
        exact fin _ (by rw [llen_lset]; exact hwl) (fun j j0 j1 => by
          rw [hset]
          split
          · rename_i ej; rw [ej]
          · exact hws j j0 (by omega)) (fun j j0 j1 => by rw [hset, if_neg (by omega)]; exact hw0 j (by omega) j1)
      · have hwv : wishV s p i = 0 := by unfold wishV; rw [if_neg c]
        rw [cnd_neg _ _ (decide_eq_false c)]
        try simp only
        rw [clamp_tail (w := wishV s p i) ⟨i0, by omega⟩ (by rw [hwv]; exact hwi0) (by omega) (by omega) (by omega)]
        exact fin _ hwl (fun j j0 j1 => by
          by_cases ej : j = i
          · rw [ej, hwv]; exact hwi0
          · exact hws j j0 (by omega)) (fun j j0 j1 => hw0 j (by omega) j1)
    · obtain ⟨i, rest, all, first, bx, ws⟩ := z
      obtain ⟨hr, ha, hf, hb, hwl, hws, _⟩ := hI
      simp only at hz hr ha hf hb hwl hws
      subst hz
      rw [Int.toNat_natCast] at hr ha hf hb
      have hrV : rest = restV s p := hr
      have haV : all = allV s p := ha
      subst hrV haV hf hb
      obtain ⟨r1, r2⟩ := N.rest
      have hlist := listT_len (needsV s) (nV s)
      have hal := N.all (nV s) (Nat.le_refl _)
      have hal1 : 0 ≤ allV s p := hal.1
      have hal2 : allV s p ≤ 1048576 * (nV s : Int) := hal.2
      try simp only
      rw [cnd_neg _ _ (decide_eq_false (by rw [← hnl]; omega))]
      have hst : ∀ i, 0 ≤ i → i < (nV s : Int) → 0 ≤ shareV s p i ∧ shareV s p i ≤ 1048576 := fun i i0 i1 => by
        have a1 := N.share i i0 i1
        have a2 := N.shares i.toNat (by omega)
        have a3 := N.shares (i.toNat + 1) (by omega)
        rw [sumT, show ((i.toNat : Nat) : Int) = i by omega] at a3
        omega
      refine iter_up (fun z : Int × Int × (Int × Int) × List Int × Unit => z.1) (nV s : Int) (fun z => z.2.1 = restV s p - sumT (shareV s p) z.1.toNat ∧ z.2.2.1 = (cycV s p, offV s p) ∧ llen z.2.2.2.1 = (nV s : Int) ∧ (∀ j, 0 ≤ j → j < z.1 → idx z.2.2.2.1 j = some (partV s p j)) ∧ ∀ j, 0 ≤ j → z.1 ≤ j → j < (nV s : Int) → idx z.2.2.2.1 j = some (needsV s j)) (fun r => EndRound (fun r => r = some true) (.done r : Step St1 (Option Bool))) (by omega) (by simp) (by simp only; omega) ⟨by simp [sumT], rfl, hlist, fun j j0 j1 => absurd j1 (by simp only; omega), fun j j0 _ j1 => listT_idx j0 j1⟩ (fun z hI i0 i1 => ?_) (fun z hI hz => ?_)
      · obtain ⟨i, left, co, sp, u⟩ := z
        obtain ⟨hl, hco, hsl, hsp, hsn⟩ := hI
        simp only at i0 i1 hl hco hsl hsp hsn
        subst hl hco
        have hsi := hsn i i0 (Int.le_refl _) i1
        have hni := needs_in hx h i0 (by rw [← hnl]; exact i1)
        have hsucc : (i + 1).toNat = i.toNat + 1 := by omega
        have hti : ((i.toNat : Nat) : Int) = i := by omega
        have hsh := hst i i0 i1
        have hss := N.shares i.toNat (by omega)
        try simp only
        rw [cnd_pos _ _ (decide_eq_true (by rw [hlist]; exact i1)), wr_i64 (i + 1) (by omega) (by omega)]
        by_cases c : 0 < allV s p
        · have hwi := N.wish i i0 i1
          have hmul : 0 ≤ restV s p * wishV s p i ∧ restV s p * wishV s p i ≤ 1048576 * 1048576 := ⟨Int.mul_nonneg r1 hwi.1, Int.mul_le_mul r2 hwi.2 hwi.1 (by omega)⟩
          have hsv : restV s p * wishV s p i / allV s p = shareV s p i := by unfold shareV; rw [if_pos c]
          have hq : quoop .i64 (wr .i64 (restV s p * wishV s p i)) (allV s p) = shareV s p i := by
            rw [wr_i64 _ (by omega) (by omega), quo_e hmul.1 c (by rw [hsv]; omega), hsv]
          rw [cnd_pos _ _ (decide_eq_true c), elimO_eq _ _ (hws i i0 i1), cnd_pos _ _ (by simp; omega), elimO_eq _ _ hsi, elimO_eq _ _ hsi, elimO_eq _ _ hsi, elimO_eq _ _ hsi]
          simp only [hq]
          rw [wr_i64 (needsV s i + shareV s p i) (by omega) (by omega), wr_i64 (restV s p - sumT (shareV s p) i.toNat - shareV s p i) (by omega) (by omega)]
          have hset : ∀ j, idx (lset sp i (needsV s i + shareV s p i)) j = if j = i then some (needsV s i + shareV s p i) else idx sp j := fun j => idx_lset i0 (by omega) _ j
          refine ⟨rfl, ?_, rfl, by (try simp only); rw [llen_lset]; exact hsl, fun j j0 j1 => ?_, fun j j0 j1 j2 => ?_⟩
          · simp only; rw [hsucc, sumT, hti]; omega
          · simp only at j1 ⊢
            rw [hset]
            split
            · rename_i ej; rw [ej]; rfl
            · exact hsp j j0 (by omega)
          · simp only at j1 ⊢
            rw [hset, if_neg (by omega)]
            exact hsn j j0 (by omega) j2
        · have hs0 : ∀ j, shareV s p j = 0 := fun j => by unfold shareV; rw [if_neg c]
          rw [cnd_neg _ _ (decide_eq_false c)]
          refine ⟨rfl, ?_, rfl, hsl, fun j j0 j1 => ?_, fun j j0 j1 j2 => hsn j j0 (by simp only at j1; omega) j2⟩
          · simp only; rw [hsucc, sumT, hti, hs0]; omega
          · simp only at j1 ⊢
            by_cases ej : j = i
            · rw [ej, hsi]; unfold partV; rw [hs0, Int.add_zero]
            · exact hsp j j0 (by omega)
      · obtain ⟨i, left, co, sp, u⟩ := z
        obtain ⟨hl, hco, hsl, hsp, _⟩ := hI
        simp only at hz hl hco hsl hsp
        subst hz
        rw [Int.toNat_natCast] at hl
        have hlV : left = leftV s p := hl
        subst hlV hco
        obtain ⟨a0, a1⟩ := N.at_
        have hat : max 0 (firstT (wishV s p) (nV s)) = atV s p := rfl
        have hsa := hsp (atV s p) a0 a1
        have hpa := hst (atV s p) a0 a1
        have hna := needs_in hx h a0 (by rw [← hnl]; exact a1)
        have hlf : 0 ≤ leftV s p ∧ leftV s p ≤ 1048576 := by
          have := N.shares (nV s) (Nat.le_refl _)
          unfold leftV; omega
        try simp only [hat]
        rw [cnd_neg _ _ (decide_eq_false (by rw [hlist]; omega)), elimO_eq _ _ hsa, elimO_eq _ _ hsa, elimO_eq _ _ hsa, elimO_eq _ _ hsa, wr_i64 _ (by unfold partV; omega) (by unfold partV; omega)]
        have hfin : lset sp (atV s p) (partV s p (atV s p) + leftV s p) = listT (splitV s p) (nV s) := by
          refine idx_ext (by rw [llen_lset, hsl, listT_len]) fun j j0 j1 => ?_
          rw [llen_lset, hsl] at j1
          rw [idx_lset a0 (by omega), listT_idx j0 j1]
          unfold splitV
          by_cases ej : j = atV s p
          · rw [if_pos ej, if_pos ej, ej]
          · rw [if_neg ej, if_neg ej]; exact hsp j j0 j1
        rw [hfin]
        exact hrest
  · have hcl : ref17_Clamp_t (s, p) = some ((0, (0, [])), e) := by
      unfold ref17_Clamp_t
      rw [elimO_eq _ _ h2r, cnd_pos _ _ (by simp [h0])]
    rw [cnd_pos _ _ (by simp [h0]), elimO_eq _ _ hcl, elimO_eq _ _ hAr, elimO_eq _ _ hA, elimO_eq _ _ hWr, elimO_eq _ _ hW, elimO_eq _ _ (refSame_refl (a := (0, (0, []))) (by simp [maxLen]))]
    refine goes_loop (l := []) (b := (0, 0)) (by decide) ?_
    rw [cnd_pos _ _ (by simp), elimO_eq _ _ hS0]

end Go.Proofs.YtfdnmjabjmedgaaDoor
