/- Part of a proof: plain readings of Go functions, their contracts, or plain facts of them. -/
import Derived.Test.YtfdnmjabjmedgaaDoorPlqX2
namespace Go.Proofs.YtfdnmjabjmedgaaDoor
open Go.Den

theorem join_cnd {σ A : Type} {b : Bool} {x y v : σ} {K : σ → A} (hx : b = true → x = v) (hy : b = false → y = v) : joinPt K (fun k => cnd b (k x) (k y)) = K v := by
  rw [joinPt_app]
  cases b with
  | true => rw [hx rfl]; rfl
  | false => rw [hy rfl]; rfl
/-- a wish, as the document reckons it -/
def wishD (l : List Int) (i least high : Int) : Int := if i < llen l then (if least < el l i then (if high < el l i then high - least else el l i - least) else 0) else 0
theorem wish_join {σ A : Type} {bad : A} {l : List Int} {i least high : Int} {y : σ} {K : Int × σ → A} (i0 : 0 ≤ i) (h1 : 0 ≤ least ∧ least ≤ 2097152) (h2 : 0 ≤ high ∧ high ≤ 2097152) (hl : i < llen l → -9223372036854775808 ≤ el l i ∧ el l i ≤ 9223372036854775807) :
    joinPt K (fun k => cnd (decide (i < llen l)) (elimO (idx l i) bad (fun x7 => cnd (decide (least < x7)) (elimO (idx l i) bad (fun x8 => elimO (idx l i) bad (fun x9 => cnd (decide (high < x9)) (k (wr .i64 (high - least), y)) (k (wr .i64 (x8 - least), y))))) (k (0, y)))) (k (0, y))) = K (wishD l i least high, y) := by
  rw [joinPt_app]
  unfold wishD
  by_cases c : i < llen l
  · have hx := idx_el i0 c
    have hb := hl c
    rw [cnd_pos _ _ (decide_eq_true c), if_pos c, elimO_eq _ _ hx]
    by_cases d : least < el l i
    · rw [cnd_pos _ _ (decide_eq_true d), if_pos d, elimO_eq _ _ hx, elimO_eq _ _ hx]
      by_cases f : high < el l i
      · rw [cnd_pos _ _ (decide_eq_true f), if_pos f, wr_i64 (high - least) (by omega) (by omega)]
      · rw [cnd_neg _ _ (decide_eq_false f), if_neg f, wr_i64 (el l i - least) (by omega) (by omega)]
    · rw [cnd_neg _ _ (decide_eq_false d), if_neg d]
  · rw [cnd_neg _ _ (decide_eq_false c), if_neg c]

theorem room_one {α : Type} {l : List α} {x : α} (h : llen l ≤ 1000) : (true && roomOK (llen l + llen (x :: [])) 8) = true := room_snoc2 (l := l) (by omega)

abbrev NSt := Int × Int × List Int × Int × (Int × Int) × List Int × Unit
set_option maxHeartbeats 1000000 in
/-- the document's plan that is next to any one -/
theorem refNear_e {s : PSSite} {p : PSPlan} (hx : SFits s) (hS : SiteOK s) (ho2 : ∀ m ∈ p.2.2, -9223372036854775808 ≤ m ∧ m ≤ 9223372036854775807) : ref17_Near_t (s, p) = some (clampV s p) := by
  have N := clampNums hx hS p
  obtain ⟨l1, l2, l3⟩ := N.low
  obtain ⟨c1, c2⟩ := N.cyc
  obtain ⟨n1, n2⟩ := N.n
  have hnl : ((nV s : Nat) : Int) = llen s.2.2.2.2.1 := rfl
  have hlow : lowV s = s.2.2.2.2.2.2.2.2.2.1 := rfl
  have hhigh : highV s = s.2.2.2.2.2.2.2.2.2.2.1 := rfl
  have htm := Int.tmod_lt_of_pos p.2.1 (b := cycV s p) (by omega)
  have htn : -(cycV s p) < p.2.1.tmod (cycV s p) := tmod_gt p.2.1 (by omega)
  have hcz : (!(cycV s p == 0)) = true := by simp; omega
  have hcv : cycV s p = min (max p.1 (lowV s)) (highV s) := rfl
  have hoff : offV s p = (p.2.1.tmod (cycV s p) + cycV s p).tmod (cycV s p) := rfl
  unfold ref17_Near_t
  rw [join_cnd (v := (((max p.1 (lowV s), 0), ([], ())) : (Int × Int) × List Int × Unit)) (fun hb => by
    have := of_decide_eq_true hb
    rw [show max p.1 (lowV s) = s.2.2.2.2.2.2.2.2.2.1 by simp only at this; omega]) (fun hb => by
    have := of_decide_eq_false hb
    rw [show max p.1 (lowV s) = p.1 by simp only at this; omega])]
  try simp only
  rw [join_cnd (v := (((cycV s p, 0), ([], ())) : (Int × Int) × List Int × Unit)) (fun hb => by
    have := of_decide_eq_true hb
    rw [show cycV s p = s.2.2.2.2.2.2.2.2.2.2.1 by omega]) (fun hb => by
    have := of_decide_eq_false hb
    rw [show cycV s p = max p.1 (lowV s) by omega])]
  try simp only
  rw [cnd_pos _ _ hcz, join_cnd (v := (((cycV s p, offV s p), ([], ())) : (Int × Int) × List Int × Unit)) (fun hb => by
    have d : p.2.1.tmod (cycV s p) < 0 := of_decide_eq_true hb
    have e : wr .i64 (irem p.2.1 (cycV s p) + cycV s p) = offV s p := by
      show wr .i64 (p.2.1.tmod (cycV s p) + cycV s p) = _
      rw [wr_i64 (p.2.1.tmod (cycV s p) + cycV s p) (by omega) (by omega), hoff]
      exact (Int.tmod_eq_of_lt (by omega) (by omega)).symm
    rw [e]) (fun hb => by
    have d : ¬ p.2.1.tmod (cycV s p) < 0 := of_decide_eq_false hb
    have e : irem p.2.1 (cycV s p) = offV s p := by
      show p.2.1.tmod (cycV s p) = _
      have e1 : (p.2.1.tmod (cycV s p) + cycV s p).tmod (cycV s p) = (p.2.1.tmod (cycV s p) + cycV s p * 1) % cycV s p := by
        rw [Int.mul_one]; exact Int.tmod_eq_emod_of_nonneg (by omega)
      rw [hoff, e1, Int.add_mul_emod_self_left]
      exact (Int.emod_eq_of_lt (by omega) (by omega)).symm
    rw [e])]
  try simp only
  refine iter_up (fun z : NSt => z.2.2.2.1) (nV s : Int) (fun z => z.1 = cycV s p - roundTo s z.2.2.2.1.toNat ∧ z.2.1 = sumT (wishV s p) z.2.2.2.1.toNat ∧ z.2.2.1 = listT (wishV s p) z.2.2.2.1.toNat ∧ z.2.2.2.2.1 = (cycV s p, offV s p) ∧ z.2.2.2.2.2.1 = listT (needsV s) z.2.2.2.1.toNat) (fun r => r = some (clampV s p)) (by omega) (by simp) (by simp only; omega) ?_ (fun z hI i0 i1 => ?_) (fun z hI hz => ?_)
  · exact ⟨by simp [roundTo], rfl, rfl, rfl, rfl⟩
  · obtain ⟨r, a, ws, i, co, sp, u⟩ := z
    obtain ⟨hr, ha, hw, hco, hsp⟩ := hI
    simp only at i0 i1 hr ha hw hco hsp
    subst hr ha hw hco hsp
    have hph := idx_el (l := s.2.2.2.2.1) i0 (by rw [← hnl]; exact i1)
    have hni := needs_in hx hS i0 (by rw [← hnl]; exact i1)
    have T := ptimes hx hS (k := i) i0 (by omega)
    have t1 := T.min
    have t2 := T.clr
    have hmin : (el s.2.2.2.2.1 i).2.1 = minP s i := rfl
    have hle : wr .i64 (minP s i + clrV s i) = needsV s i := by
      have : minP s i + clrV s i = needsV s i := by unfold clrV; omega
      rw [this, wr_i64 _ (by omega) (by omega)]
    have hwi := N.wish i i0 i1
    have hro := N.round i.toNat (by omega)
    have hal := N.all i.toNat (by omega)
    have hsucc : (i + 1).toNat = i.toNat + 1 := by omega
    have hti : ((i.toNat : Nat) : Int) = i := by omega
    have hlw : llen (listT (wishV s p) i.toNat) ≤ 1000 := by rw [listT_len]; omega
    have hln : llen (listT (needsV s) i.toNat) ≤ 1000 := by rw [listT_len]; omega
    try simp only
    rw [cnd_pos _ _ (decide_eq_true (by rw [← hnl]; exact i1)), elimO_eq _ _ hph, elimO_eq _ _ (refGap_e hx hS i0 (by omega)), hmin]
    simp only [hle]
    have hwv : wishV s p i = if i < llen p.2.2 then max 0 (min (max 0 (el p.2.2 i)) (highV s) - needsV s i) else 0 := rfl
    rw [wish_join i0 (by omega) (by omega) (fun h => ho2 _ (el_mem i0 h))]
    try simp only
    rw [join_cnd (v := ((wishV s p i, (listT (wishV s p) i.toNat, ((cycV s p, offV s p), (listT (needsV s) i.toNat, ())))) : Int × List Int × (Int × Int) × List Int × Unit)) (fun hb => by
      have d := of_decide_eq_true hb
      unfold wishD at d
      rw [show wishV s p i = 0 by rw [hwv]; split at d <;> (try split at d) <;> (try split at d) <;> (try split) <;> omega]) (fun hb => by
      have d := of_decide_eq_false hb
      unfold wishD at d ⊢
      rw [hwv]
      congr 1
      split at d <;> (try split at d) <;> (try split at d) <;> (try split) <;> (try split) <;> (try split) <;> omega)]
    try simp only
    rw [cnd_pos _ _ (room_one hlw), cnd_pos _ _ (room_one hln), wr_i64 (cycV s p - roundTo s i.toNat - needsV s i) (by omega) (by omega), wr_i64 (sumT (wishV s p) i.toNat + wishV s p i) (by omega) (by omega), wr_i64 (i + 1) (by omega) (by omega)]
    refine ⟨rfl, ?_, ?_, ?_, rfl, ?_⟩
    · simp only; rw [hsucc, roundTo, hti]; omega
    · simp only; rw [hsucc, sumT, hti]
    · simp only; rw [hsucc, listT_succ, hti]
    · simp only; rw [hsucc, listT_succ, hti]
  · obtain ⟨r, a, ws, i, co, sp, u⟩ := z
    obtain ⟨hr, ha, hw, hco, hsp⟩ := hI
    simp only at hz hr ha hw hco hsp
    subst hz
    rw [Int.toNat_natCast] at hr ha hw hsp
    have hrV : r = restV s p := hr
    have haV : a = allV s p := ha
    subst hrV haV hw hco hsp
    obtain ⟨r1, r2⟩ := N.rest
    have hlw := listT_len (wishV s p) (nV s)
    have hln := listT_len (needsV s) (nV s)
    have hal := N.all (nV s) (Nat.le_refl _)
    have hal1 : 0 ≤ allV s p := hal.1
    have hal2 : allV s p ≤ 1048576 * (nV s : Int) := hal.2
    have hst : ∀ i, 0 ≤ i → i < (nV s : Int) → 0 ≤ shareV s p i ∧ shareV s p i ≤ 1048576 := fun i i0 i1 => by
      have a1 := N.share i i0 i1
      have a2 := N.shares i.toNat (by omega)
      have a3 := N.shares (i.toNat + 1) (by omega)
      rw [sumT, show ((i.toNat : Nat) : Int) = i by omega] at a3
      omega
    try simp only
    rw [cnd_neg _ _ (decide_eq_false (by rw [← hnl]; omega))]
    obtain ⟨f1, f2, f3⟩ := firstT_in (wishV s p) (nV s)
    by_cases hz : allV s p = 0
    · -- nobody wishes
      have hno : firstT (wishV s p) (nV s) < 0 := by
        apply Int.not_le.1
        intro hh
        obtain ⟨k, hk, hpos⟩ := f3.1 hh
        have h1 := sumT_mono (f := wishV s p) (n := nV s) (k := k + 1) (fun m hm => (N.wish (m : Int) (by omega) (by omega)).1) (nV s) (Nat.le_refl _) (by omega)
        have h2 := (N.all k (by omega)).1
        rw [sumT] at h1
        have : sumT (wishV s p) (nV s) = allV s p := rfl
        omega
      have hat : atV s p = 0 := by unfold atV; omega
      have hs0 : ∀ j, shareV s p j = 0 := fun j => by unfold shareV; rw [if_neg (by omega)]
      have hsum0 : ∀ m, sumT (shareV s p) m = 0 := by
        intro m
        induction m with
        | zero => rfl
        | succ m ih => rw [sumT, ih, hs0]; rfl
      have hleft : leftV s p = restV s p := by unfold leftV; rw [hsum0]; omega
      have h0 : idx (listT (needsV s) (nV s)) 0 = some (needsV s 0) := listT_idx (by omega) (by omega)
      have hn0 := needs_in hx hS (i := 0) (by omega) (by omega)
      rw [cnd_pos _ _ (by simpa using hz), elimO_eq _ _ h0, elimO_eq _ _ h0, elimO_eq _ _ h0, elimO_eq _ _ h0, wr_i64 (needsV s 0 + restV s p) (by omega) (by omega)]
      show some _ = some _
      have : lset (listT (needsV s) (nV s)) 0 (needsV s 0 + restV s p) = listT (splitV s p) (nV s) := by
        refine idx_ext (by rw [llen_lset, hln, listT_len]) fun j j0 j1 => ?_
        rw [llen_lset, hln] at j1
        rw [idx_lset (by omega) (by omega), listT_idx (f := splitV s p) j0 j1, listT_idx (f := needsV s) j0 j1]
        unfold splitV partV
        rw [hat, hs0, Int.add_zero, hleft]
        by_cases ej : j = 0
        · rw [if_pos ej, if_pos ej, ej]
        · rw [if_neg ej, if_neg ej]
      rw [this]; rfl
    · rw [cnd_neg _ _ (by simpa using hz)]
      have hpos : 0 < allV s p := by omega
      have hfst : 0 ≤ firstT (wishV s p) (nV s) := by
        apply f3.2
        apply Classical.byContradiction
        intro hh
        have : ∀ m, m ≤ nV s → sumT (wishV s p) m = 0 := by
          intro m
          induction m with
          | zero => intro _; rfl
          | succ m ih =>
            intro hm
            have h1 := (N.wish (m : Int) (by omega) (by omega)).1
            have h2 : ¬ 0 < wishV s p (m : Int) := fun h => hh ⟨m, by omega, h⟩
            rw [sumT, ih (by omega)]; omega
        have := this (nV s) (Nat.le_refl _)
        have e : sumT (wishV s p) (nV s) = allV s p := rfl
        omega
      have hat : atV s p = firstT (wishV s p) (nV s) := by unfold atV; omega
      have hws : ∀ j, 0 ≤ j → j < (nV s : Int) → idx (listT (wishV s p) (nV s)) j = some (wishV s p j) := fun j j0 j1 => listT_idx j0 j1
      refine iter_up (fun z : Int × Int × Int × (Int × Int) × List Int × Unit => z.2.2.1) (nV s : Int) (fun z => z.1 = restV s p - sumT (shareV s p) z.2.2.1.toNat ∧ z.2.1 = firstT (wishV s p) z.2.2.1.toNat ∧ z.2.2.2.1 = (cycV s p, offV s p) ∧ llen z.2.2.2.2.1 = (nV s : Int) ∧ (∀ j, 0 ≤ j → j < z.2.2.1 → idx z.2.2.2.2.1 j = some (partV s p j)) ∧ ∀ j, 0 ≤ j → z.2.2.1 ≤ j → j < (nV s : Int) → idx z.2.2.2.2.1 j = some (needsV s j)) (fun r => r = some (clampV s p)) (by omega) (by simp) (by simp only; omega) ?_ (fun z hI i0 i1 => ?_) (fun z hI hz => ?_)
      · exact ⟨by simp [sumT], rfl, rfl, hln, fun j j0 j1 => by simp only at j1; omega, fun j j0 _ j1 => listT_idx j0 j1⟩
      · obtain ⟨left, first, i, co, sp, u⟩ := z
        obtain ⟨hl, hf, hco, hsl, hsp, hsn⟩ := hI
        simp only at i0 i1 hl hf hco hsl hsp hsn
        subst hl hf hco
        have hsi := hsn i i0 (Int.le_refl _) i1
        have hni := needs_in hx hS i0 (by rw [← hnl]; exact i1)
        have hsucc : (i + 1).toNat = i.toNat + 1 := by omega
        have hti : ((i.toNat : Nat) : Int) = i := by omega
        have hsh := hst i i0 i1
        have hss := N.shares i.toNat (by omega)
        have hwi := N.wish i i0 i1
        have hmul : 0 ≤ restV s p * wishV s p i ∧ restV s p * wishV s p i ≤ 1048576 * 1048576 := ⟨Int.mul_nonneg r1 hwi.1, Int.mul_le_mul r2 hwi.2 hwi.1 (by omega)⟩
        have hsv : restV s p * wishV s p i / allV s p = shareV s p i := by unfold shareV; rw [if_pos hpos]
        have hq : quoop .i64 (wr .i64 (restV s p * wishV s p i)) (allV s p) = shareV s p i := by
          rw [wr_i64 _ (by omega) (by omega), quo_e hmul.1 hpos (by rw [hsv]; omega), hsv]
        have hwx := hws i i0 i1
        try simp only
        rw [cnd_pos _ _ (decide_eq_true (by rw [hlw]; exact i1)), joinPt_app, elimO_eq _ _ hwx, cnd_pos _ _ (by simp; omega), elimO_eq _ _ hsi, elimO_eq _ _ hsi, elimO_eq _ _ hsi, elimO_eq _ _ hsi]
        simp only [hq]
        rw [wr_i64 (needsV s i + shareV s p i) (by omega) (by omega), wr_i64 (restV s p - sumT (shareV s p) i.toNat - shareV s p i) (by omega) (by omega), wr_i64 (i + 1) (by omega) (by omega)]
        have hset : ∀ j, idx (lset sp i (needsV s i + shareV s p i)) j = if j = i then some (needsV s i + shareV s p i) else idx sp j := fun j => idx_lset i0 (by omega) _ j
        have fin : ∀ f : Int, f = firstT (wishV s p) (i.toNat + 1) → UpRound (fun z : Int × Int × Int × (Int × Int) × List Int × Unit => z.2.2.1) (fun z => z.1 = restV s p - sumT (shareV s p) z.2.2.1.toNat ∧ z.2.1 = firstT (wishV s p) z.2.2.1.toNat ∧ z.2.2.2.1 = (cycV s p, offV s p) ∧ llen z.2.2.2.2.1 = (nV s : Int) ∧ (∀ j, 0 ≤ j → j < z.2.2.1 → idx z.2.2.2.2.1 j = some (partV s p j)) ∧ ∀ j, 0 ≤ j → z.2.2.1 ≤ j → j < (nV s : Int) → idx z.2.2.2.2.1 j = some (needsV s j)) (fun r : Option PSPlan => r = some (clampV s p)) i
            (.next (restV s p - sumT (shareV s p) i.toNat - shareV s p i, (f, (i + 1, ((cycV s p, offV s p), (lset sp i (needsV s i + shareV s p i), ())))))) := fun f hf => by
          refine ⟨rfl, ?_, ?_, rfl, by (try simp only); rw [llen_lset]; exact hsl, fun j j0 j1 => ?_, fun j j0 j1 j2 => ?_⟩
          · simp only; rw [hsucc, sumT, hti]; omega
          · simp only; rw [hsucc, hf]
          · simp only at j1 ⊢
            rw [hset]
            split
            · rename_i ej; rw [ej]; rfl
            · exact hsp j j0 (by omega)
          · simp only at j1 ⊢
            rw [hset, if_neg (by omega)]
            exact hsn j j0 (by omega) j2
        have hfs : firstT (wishV s p) (i.toNat + 1) = if 0 < wishV s p i ∧ firstT (wishV s p) i.toNat < 0 then i else firstT (wishV s p) i.toNat := by
          rw [firstT, hti]
        by_cases d : firstT (wishV s p) i.toNat < 0
        · rw [cnd_pos _ _ (decide_eq_true d), elimO_eq _ _ hwx]
          by_cases f : 0 < wishV s p i
          · rw [cnd_pos _ _ (decide_eq_true f)]
            exact fin _ (by rw [hfs, if_pos ⟨f, d⟩])
          · rw [cnd_neg _ _ (decide_eq_false f)]
            exact fin _ (by rw [hfs, if_neg (fun h => f h.1)])
        · rw [cnd_neg _ _ (decide_eq_false d)]
          exact fin _ (by rw [hfs, if_neg (fun h => d h.2)])
      · obtain ⟨left, first, i, co, sp, u⟩ := z
        obtain ⟨hl, hf, hco, hsl, hsp, _⟩ := hI
        simp only at hz hl hf hco hsl hsp
        subst hz
        rw [Int.toNat_natCast] at hl hf
        have hlV : left = leftV s p := hl
        have hfV : first = atV s p := by rw [hf, hat]
        subst hlV hfV hco
        obtain ⟨a0, a1⟩ := N.at_
        have hsa := hsp (atV s p) a0 a1
        have hpa := hst (atV s p) a0 a1
        have hna := needs_in hx hS a0 (by rw [← hnl]; exact a1)
        have hlf : 0 ≤ leftV s p ∧ leftV s p ≤ 1048576 := by
          have := N.shares (nV s) (Nat.le_refl _)
          unfold leftV; omega
        try simp only
        rw [cnd_neg _ _ (decide_eq_false (by rw [hlw]; omega)), elimO_eq _ _ hsa, elimO_eq _ _ hsa, elimO_eq _ _ hsa, elimO_eq _ _ hsa, wr_i64 _ (by unfold partV; omega) (by unfold partV; omega)]
        show some _ = some _
        have hfin : lset sp (atV s p) (partV s p (atV s p) + leftV s p) = listT (splitV s p) (nV s) := by
          refine idx_ext (by rw [llen_lset, hsl, listT_len]) fun j j0 j1 => ?_
          rw [llen_lset, hsl] at j1
          rw [idx_lset a0 (by omega), listT_idx j0 j1]
          unfold splitV
          by_cases ej : j = atV s p
          · rw [if_pos ej, if_pos ej, ej]
          · rw [if_neg ej, if_neg ej]; exact hsp j j0 j1
        rw [hfin]
        rfl

end Go.Proofs.YtfdnmjabjmedgaaDoor
