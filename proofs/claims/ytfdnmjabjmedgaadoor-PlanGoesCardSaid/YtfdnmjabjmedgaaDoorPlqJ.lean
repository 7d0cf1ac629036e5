/- Part of a proof: plain readings of Go functions, their contracts, or plain facts of them. -/
import Derived.Test.YtfdnmjabjmedgaaDoorPlqG
import Derived.Test.YtfdnmjabjmedgaaDoorDen3
namespace Go.Proofs.YtfdnmjabjmedgaaDoor
open Go.Den

/-! # The plan of a site next to any one -/
theorem in_site {a b c : Int} : site_in (a, (b, c)) = true ↔ b ≤ a ∧ a ≤ c := in_iff a b c

theorem tmod_gt (a : Int) {b : Int} (h : 0 < b) : -b < a.tmod b := by
  by_cases h0 : 0 ≤ a
  · have := Int.tmod_nonneg b h0; omega
  · have h1 := Int.tmod_lt_of_pos (-a) h
    rw [Int.neg_tmod] at h1
    omega

def lowV (s : PSSite) : Int := s.2.2.2.2.2.2.2.2.2.1
def highV (s : PSSite) : Int := s.2.2.2.2.2.2.2.2.2.2.1
def phs (s : PSSite) : List PSPhase := s.2.2.2.2.1

theorem pclear_e {s : PSSite} (hx : SFits s) (h : SiteOK s) (hc : site_Check_t s = some 0) {i : Int} {p : PSPhase} (hp : idx s.2.2.2.2.1 i = some p) : plan_clear_t (s, i) = some (needsV s i - p.2.1) := by
  obtain ⟨i0, i1, _⟩ := idx_some_iff hp
  have p1 := h.shape.p1
  have p2 := h.shape.p2
  obtain ⟨n0, n1⟩ := nextP_in h.shape i0
  obtain ⟨_, pn, m, hpn, hci, hv, _, _⟩ := needs_s hx h.shape h.apart h.phased hp
  obtain ⟨m', hm', hci'⟩ := clear_s hx h.shape hp hpn
  have hmm := clear_unique hci hci'
  subst hmm
  have hn : plan_next_t (s, i) = some (nextP s i) := by
    unfold plan_next_t nextP
    rw [cnd_pos _ _ (by simp; omega), wr_i64 (i + 1) (by omega) (by omega)]
    rfl
  have hC : site_Clear_t (s, (i, nextP s i)) = some (m, 0) := by
    unfold site_Clear_t
    rw [joinPt_app, elimO_eq _ _ hc, cnd_neg (b := !((0 : Int) == 0)) _ _ rfl]
    refine iter_allQ (l := i :: (nextP s i :: [])) (fun r : Option (Int × Int) => r = some (m, 0)) (fun _ x => 0 ≤ x ∧ x ≤ llen s.2.2.2.2.1 - 1) (some (0, 2)) (some (m, 0)) (by simp [maxLen]) (fun j x j0 j1 hx' => ?_) (fun j hj => by (try simp only); rw [cnd_neg _ _ (decide_eq_false hj), cnd_neg (b := !((0 : Int) == 0)) _ _ rfl, elimO_eq _ _ hm']) (fun _ => rfl) (fun hh => absurd (fun j x hx' => ?_) hh)
    · try simp only
      rw [cnd_pos _ _ (decide_eq_true j1), elimO_eq _ _ hx', letK_app, wr_i64 (llen s.2.2.2.2.1 - 1) (by omega) (by omega)]
      by_cases c : 0 ≤ x ∧ x ≤ llen s.2.2.2.2.1 - 1
      · exact .inl ⟨c, by rw [cnd_neg _ _ (by rw [in_site.2 c]; rfl)]⟩
      · exact .inr ⟨c, by rw [cnd_pos _ _ (by rw [Bool.eq_false_iff.2 fun hh => c (in_site.1 hh)]; rfl)]; rfl⟩
    · have hm := (idx_some_iff hx').2.2
      have : x = i ∨ x = nextP s i := by simpa using hm
      rcases this with e | e
      · rw [e]; omega
      · rw [e]; omega
  unfold plan_clear_t
  rw [elimO_eq _ _ hn, elimO_eq _ _ hC, hv]
  show some m = some (p.2.1 + m - p.2.1)
  congr 1; omega

def sumT (f : Int → Int) : Nat → Int
  | 0 => 0
  | k + 1 => sumT f k + f (k : Int)
def firstT (f : Int → Int) : Nat → Int
  | 0 => -1
  | k + 1 => if 0 < f (k : Int) ∧ firstT f k < 0 then (k : Int) else firstT f k
def listT (f : Int → Int) (n : Nat) : List Int := (List.range n).map fun (k : Nat) => f (k : Int)
theorem listT_len (f : Int → Int) (n : Nat) : llen (listT f n) = n := by unfold llen listT; simp
theorem listT_idx {f : Int → Int} {n : Nat} {j : Int} (j0 : 0 ≤ j) (j1 : j < n) : idx (listT f n) j = some (f j) := by
  unfold listT
  rw [idx_nat j0, List.getElem?_map, List.getElem?_range (by omega)]
  show some (f ((j.toNat : Nat) : Int)) = _
  rw [Int.toNat_of_nonneg j0]
theorem listT_succ (f : Int → Int) (n : Nat) : listT f (n + 1) = listT f n ++ [f (n : Int)] := by
  unfold listT; rw [List.range_succ, List.map_append]; rfl

theorem sumT_round (s : PSSite) : ∀ k, sumT (needsV s) k = roundTo s k
  | 0 => rfl
  | k + 1 => by rw [sumT, roundTo, sumT_round s k]
theorem sumT_le {f : Int → Int} {b : Int} {n : Nat} (h : ∀ k : Nat, k < n → 0 ≤ f (k : Int) ∧ f (k : Int) ≤ b) : ∀ k, k ≤ n → 0 ≤ sumT f k ∧ sumT f k ≤ b * (k : Int)
  | 0, _ => by simp [sumT]
  | k + 1, hk => by
    have ih := sumT_le h k (by omega)
    have := h k (by omega)
    rw [sumT]
    have e : b * ((k + 1 : Nat) : Int) = b * (k : Int) + b := by rw [Int.natCast_add, Int.mul_add]; simp
    omega

def wishV (s : PSSite) (p : PSPlan) (i : Int) : Int := if i < llen p.2.2 then max 0 (min (max 0 (el p.2.2 i)) (highV s) - needsV s i) else 0
def cycV (s : PSSite) (p : PSPlan) : Int := min (max p.1 (lowV s)) (highV s)
def offV (s : PSSite) (p : PSPlan) : Int := (p.2.1.tmod (cycV s p) + cycV s p).tmod (cycV s p)
def nV (s : PSSite) : Nat := s.2.2.2.2.1.length
def allV (s : PSSite) (p : PSPlan) : Int := sumT (wishV s p) (nV s)
def restV (s : PSSite) (p : PSPlan) : Int := cycV s p - roundV s
def shareV (s : PSSite) (p : PSPlan) (i : Int) : Int := if 0 < allV s p then (restV s p * wishV s p i) / allV s p else 0
def leftV (s : PSSite) (p : PSPlan) : Int := restV s p - sumT (shareV s p) (nV s)
def partV (s : PSSite) (p : PSPlan) (i : Int) : Int := needsV s i + shareV s p i
def atV (s : PSSite) (p : PSPlan) : Int := max 0 (firstT (wishV s p) (nV s))
def splitV (s : PSSite) (p : PSPlan) (i : Int) : Int := if i = atV s p then partV s p i + leftV s p else partV s p i
def clampV (s : PSSite) (p : PSPlan) : PSPlan := (cycV s p, (offV s p, listT (splitV s p) (nV s)))

theorem firstT_in (f : Int → Int) : ∀ n, -1 ≤ firstT f n ∧ firstT f n < (n : Int) ∧ (0 ≤ firstT f n ↔ ∃ k : Nat, k < n ∧ 0 < f (k : Int))
  | 0 => ⟨by simp [firstT], by simp [firstT], by simp [firstT]⟩
  | n + 1 => by
    obtain ⟨h1, h2, h3⟩ := firstT_in f n
    rw [firstT]
    by_cases c : 0 < f (n : Int) ∧ firstT f n < 0
    · rw [if_pos c]
      exact ⟨by omega, by omega, fun _ => ⟨n, by omega, c.1⟩, fun _ => by omega⟩
    · rw [if_neg c]
      refine ⟨h1, by omega, fun h => ?_, fun ⟨k, hk, hp⟩ => ?_⟩
      · obtain ⟨k, hk, hp⟩ := h3.1 h
        exact ⟨k, by omega, hp⟩
      · by_cases e : k = n
        · subst e
          apply Classical.byContradiction
          intro hn
          exact c ⟨hp, by omega⟩
        · exact h3.2 ⟨k, by omega, hp⟩

theorem needs_in {s : PSSite} (hx : SFits s) (h : SiteOK s) {i : Int} (i0 : 0 ≤ i) (i1 : i < llen s.2.2.2.2.1) : 1 ≤ needsV s i ∧ needsV s i ≤ 2097152 := by
  obtain ⟨_, pn, m, _, _, _, a, b⟩ := needs_s hx h.shape h.apart h.phased (idx_el i0 i1)
  exact ⟨a, b⟩

/-- what numbers a plan that is near stands on -/
structure ClampNums (s : PSSite) (p : PSPlan) : Prop where
  low : 1 ≤ lowV s ∧ lowV s ≤ highV s ∧ highV s ≤ 1048576
  cyc : lowV s ≤ cycV s p ∧ cycV s p ≤ highV s
  off : 0 ≤ offV s p ∧ offV s p < cycV s p
  n : 1 ≤ nV s ∧ nV s ≤ 8
  rest : 0 ≤ restV s p ∧ restV s p ≤ 1048576
  wish : ∀ i, 0 ≤ i → i < (nV s : Int) → 0 ≤ wishV s p i ∧ wishV s p i ≤ 1048576
  all : ∀ k, k ≤ nV s → 0 ≤ sumT (wishV s p) k ∧ sumT (wishV s p) k ≤ 1048576 * (k : Int)
  round : ∀ k, k ≤ nV s → 0 ≤ roundTo s k ∧ roundTo s k ≤ 2097152 * (k : Int)
  share : ∀ i, 0 ≤ i → i < (nV s : Int) → 0 ≤ shareV s p i
  shares : ∀ k, k ≤ nV s → 0 ≤ sumT (shareV s p) k ∧ sumT (shareV s p) k ≤ restV s p
  at_ : 0 ≤ atV s p ∧ atV s p < (nV s : Int)

theorem sum_share {s : PSSite} {p : PSPlan} (hr : 0 ≤ restV s p) (hw : ∀ i, 0 ≤ i → i < (nV s : Int) → 0 ≤ wishV s p i) : ∀ k, k ≤ nV s → 0 ≤ sumT (shareV s p) k ∧ sumT (shareV s p) k * allV s p ≤ restV s p * sumT (wishV s p) k
  | 0, _ => by simp [sumT]
  | k + 1, hk => by
    obtain ⟨h1, h2⟩ := sum_share hr hw k (by omega)
    have hwk := hw (k : Int) (by omega) (by omega)
    rw [sumT, sumT, Int.add_mul, Int.mul_add]
    unfold shareV
    by_cases c : 0 < allV s p
    · rw [if_pos c]
      have q0 : 0 ≤ restV s p * wishV s p (k : Int) / allV s p := Int.ediv_nonneg (Int.mul_nonneg hr hwk) (by omega)
      have q1 : restV s p * wishV s p (k : Int) / allV s p * allV s p ≤ restV s p * wishV s p (k : Int) := Int.ediv_mul_le _ (by omega)
      unfold shareV at h1 h2
      exact ⟨by omega, by omega⟩
    · rw [if_neg c]
      unfold shareV at h1 h2
      have := Int.mul_nonneg hr hwk
      rw [Int.zero_mul]
      exact ⟨by omega, by omega⟩

theorem clampNums {s : PSSite} (hx : SFits s) (h : SiteOK s) (p : PSPlan) : ClampNums s p := by
  have t := h.timed
  have hl : 1 ≤ lowV s ∧ lowV s ≤ highV s ∧ highV s ≤ 1048576 := ⟨t.low.1, t.le, t.high.2⟩
  have hc : lowV s ≤ cycV s p ∧ cycV s p ≤ highV s := by unfold cycV; omega
  have p1 := h.shape.p1
  have p2 := h.shape.p2
  have hn : 1 ≤ nV s ∧ nV s ≤ 8 := by unfold llen at p1 p2; unfold nV; omega
  have hnl : ((nV s : Nat) : Int) = llen s.2.2.2.2.1 := rfl
  have hround : ∀ k, k ≤ nV s → 0 ≤ roundTo s k ∧ roundTo s k ≤ 2097152 * (k : Int) := fun k hk => roundTo_le hx h.shape h.apart h.phased k hk
  have hr0 : roundV s ≤ lowV s := t.round
  have hr1 : 0 ≤ roundV s := (hround (nV s) (Nat.le_refl _)).1
  have hrest : 0 ≤ restV s p ∧ restV s p ≤ 1048576 := by unfold restV; omega
  have hw : ∀ i, 0 ≤ i → i < (nV s : Int) → 0 ≤ wishV s p i ∧ wishV s p i ≤ 1048576 := fun i i0 i1 => by
    have := needs_in hx h i0 (by rw [← hnl]; exact i1)
    unfold wishV
    split <;> omega
  have hall := sumT_le (f := wishV s p) (b := 1048576) (n := nV s) fun k hk => hw k (by omega) (by omega)
  have hsh := sum_share (p := p) hrest.1 fun i i0 i1 => (hw i i0 i1).1
  refine ⟨hl, hc, ?_, hn, hrest, hw, hall, hround, fun i i0 i1 => ?_, fun k hk => ⟨(hsh k hk).1, ?_⟩, ?_⟩
  · unfold offV
    have a := Int.tmod_lt_of_pos p.2.1 (b := cycV s p) (by omega)
    have b : -(cycV s p) < p.2.1.tmod (cycV s p) := by
      have := tmod_gt p.2.1 (b := cycV s p) (by omega)
      exact this
    exact ⟨Int.tmod_nonneg _ (by omega), Int.tmod_lt_of_pos _ (by omega)⟩
  · unfold shareV
    split
    · exact Int.ediv_nonneg (Int.mul_nonneg hrest.1 (hw i i0 i1).1) (by omega)
    · omega
  · by_cases c : 0 < allV s p
    · have h2 := (hsh k hk).2
      have hm : sumT (wishV s p) k ≤ allV s p := by
        have mono : ∀ m, m ≤ nV s → k ≤ m → sumT (wishV s p) k ≤ sumT (wishV s p) m := by
          intro m
          induction m with
          | zero => intro _ hkm; rw [show k = 0 by omega]; omega
          | succ m ih =>
            intro hm hkm
            by_cases e : k = m + 1
            · rw [e]; omega
            · have := ih (by omega) (by omega)
              have := (hw (m : Int) (by omega) (by omega)).1
              rw [sumT]; omega
        exact mono (nV s) (Nat.le_refl _) hk
      have h3 : restV s p * sumT (wishV s p) k ≤ restV s p * allV s p := Int.mul_le_mul_of_nonneg_left hm hrest.1
      exact Int.le_of_mul_le_mul_right (a := allV s p) (by omega) c
    · have : sumT (shareV s p) k = 0 := by
        have : ∀ m, sumT (shareV s p) m = 0 := by
          intro m
          induction m with
          | zero => rfl
          | succ m ih => rw [sumT, ih]; unfold shareV; rw [if_neg c]; rfl
        exact this k
      omega
  · obtain ⟨f1, f2, _⟩ := firstT_in (wishV s p) (nV s)
    unfold atV; omega

theorem quo_e {a b : Int} (h0 : 0 ≤ a) (h1 : 0 < b) (h2 : a / b ≤ 9223372036854775807) : quoop .i64 a b = a / b := by
  have h3 : 0 ≤ a / b := Int.ediv_nonneg h0 (by omega)
  have : a.tdiv b = a / b := Int.tdiv_eq_ediv_of_nonneg h0
  show wr .i64 (a.tdiv b) = _
  rw [this, wr_i64 _ (by omega) (by omega)]

abbrev St1 := Int × Int × Int × Int × ((Int × Int) × List Int × Unit) × List Int

/-- the end of a round of the first loop -/
theorem clamp_tail {A : Type} {bad : Step St1 A} {i least rest all first w : Int} {co : Int × Int} {sp ws : List Int} (hi : 0 ≤ i ∧ i ≤ 8) (hx : idx ws i = some w) (hl : llen sp ≤ 8) (h1 : -9223372036854775808 ≤ rest - least ∧ rest - least ≤ 9223372036854775807) (h2 : -9223372036854775808 ≤ all + w ∧ all + w ≤ 9223372036854775807) :
    joinPt (fun x6 : Int × ((Int × Int) × List Int × Unit) × List Int =>
(elimO (idx x6.2.2 i) bad (fun _ =>
(elimO (idx x6.2.2 i) bad (fun x8 =>
(cnd (true && (roomOK ((llen x6.2.1.2.1) + (llen (least :: []))) 8))
(.next ((wr .i64 (i + 1)), ((wr .i64 (rest - least)), ((wr .i64 (all + x8)), (x6.1, ((x6.2.1.1, ((x6.2.1.2.1 ++ (least :: [])), ())), x6.2.2))))))
 bad)))))) (fun k =>
(elimO (idx ws i) bad (fun _ =>
(elimO (idx ws i) bad (fun x7 =>
(cnd ((decide (0 < x7)) && (decide (first < 0)))
(k (i, ((co, (sp, ())), ws)))
(k (first, ((co, (sp, ())), ws))))))))) = (.next (i + 1, (rest - least, (all + w, ((if 0 < w ∧ first < 0 then i else first), ((co, (sp ++ [least], ())), ws))))) : Step St1 A) := by
  rw [joinPt_app, elimO_eq _ _ hx, elimO_eq _ _ hx, wr_i64 (i + 1) (by omega) (by omega), wr_i64 (rest - least) h1.1 h1.2]
  by_cases c : 0 < w ∧ first < 0
  · rw [cnd_pos _ _ (by simp [c]), if_pos c]
    try simp only
    rw [elimO_eq _ _ hx, elimO_eq _ _ hx, wr_i64 (all + w) h2.1 h2.2]
    exact cnd_pos _ _ (room_snoc2 (l := sp) (by omega))
  · rw [cnd_neg _ _ (by
      apply Bool.eq_false_iff.2
      intro hh
      rw [Bool.and_eq_true, decide_eq_true_eq, decide_eq_true_eq] at hh
      exact c hh), if_neg c]
    try simp only
    rw [elimO_eq _ _ hx, elimO_eq _ _ hx, wr_i64 (all + w) h2.1 h2.2]
    exact cnd_pos _ _ (room_snoc2 (l := sp) (by omega))

theorem clamp_e {s : PSSite} {p : PSPlan} {e : Int} (hx : SFits s) (hok : e = 0 → SiteOK s) (hc : site_Check_t s = some e) (hp : PFits p) (ho : -9223372036854775808 ≤ p.2.1 ∧ p.2.1 ≤ 9223372036854775807) : plan_Clamp_t (s, p) = some (if e ≠ 0 then ((0, (0, [])), e) else (clampV s p, 0)) := by
  unfold plan_Clamp_t
  rw [elimO_eq _ _ hc]
  by_cases h0 : e = 0
  · subst h0
    have h := hok rfl
    have N := clampNums hx h p
    obtain ⟨l1, l2, l3⟩ := N.low
    obtain ⟨c1, c2⟩ := N.cyc
    obtain ⟨n1, n2⟩ := N.n
    have hnl : ((nV s : Nat) : Int) = llen s.2.2.2.2.1 := rfl
    have hcy : min (max p.1 s.2.2.2.2.2.2.2.2.2.1) s.2.2.2.2.2.2.2.2.2.2.1 = cycV s p := rfl
    have htm := Int.tmod_lt_of_pos p.2.1 (b := cycV s p) (by omega)
    have htn : -(cycV s p) < p.2.1.tmod (cycV s p) := tmod_gt p.2.1 (by omega)
    have hof : irem (wr .i64 ((irem p.2.1 (cycV s p)) + cycV s p)) (cycV s p) = offV s p := by
      show (wr .i64 (p.2.1.tmod (cycV s p) + cycV s p)).tmod (cycV s p) = _
      rw [wr_i64 _ (by omega) (by omega)]; rfl
    have hcz : (!(cycV s p == 0)) = true := by simp; omega
    rw [cnd_neg (b := !((0 : Int) == 0)) _ _ rfl, if_neg (show ¬ ((0 : Int) ≠ 0) by simp)]
    simp only [gmin_eq, gmax_eq, hcy, hof]
    rw [cnd_pos _ _ hcz, cnd_pos _ _ hcz, cnd_pos _ _ (make_ok (by omega) (by omega))]
    refine iter_up (fun z : St1 => z.1) (nV s : Int) (fun z => z.2.1 = cycV s p - roundTo s z.1.toNat ∧ z.2.2.1 = sumT (wishV s p) z.1.toNat ∧ z.2.2.2.1 = firstT (wishV s p) z.1.toNat ∧ z.2.2.2.2.1 = ((cycV s p, offV s p), (listT (needsV s) z.1.toNat, ())) ∧ llen z.2.2.2.2.2 = (nV s : Int) ∧ (∀ j, 0 ≤ j → j < z.1 → idx z.2.2.2.2.2 j = some (wishV s p j)) ∧ ∀ j, z.1 ≤ j → j < (nV s : Int) → idx z.2.2.2.2.2 j = some 0) (fun r => r = some (clampV s p, (0 : Int))) (by omega) (by simp) (by simp only; omega) ⟨by simp [roundTo], rfl, rfl, rfl, llen_lrep (by omega) _, fun j j0 j1 => absurd j1 (by simp only; omega), fun j j0 j1 => idx_lrep j0 (by rw [← hnl]; exact j1) _⟩ (fun z hI i0 i1 => ?_) (fun z hI hz => ?_)
    · obtain ⟨i, rest, all, first, bx, ws⟩ := z
      obtain ⟨hr, ha, hf, hb, hwl, hws, hw0⟩ := hI
      simp only at i0 i1 hr ha hf hb hwl hws hw0
      subst hr ha hf hb
      have hph := idx_el (l := s.2.2.2.2.1) i0 (by rw [← hnl]; exact i1)
      have hni := needs_in hx h i0 (by rw [← hnl]; exact i1)
      have hmin := (h.phased.1 i _ hph).min
      have hle : wr .i64 ((el s.2.2.2.2.1 i).2.1 + (needsV s i - (el s.2.2.2.2.1 i).2.1)) = needsV s i := by
        rw [wr_i64 _ (by omega) (by omega)]; omega
      have hwi := N.wish i i0 i1
      have hro := N.round i.toNat (by omega)
      have hal := N.all i.toNat (by omega)
      have hll := listT_len (needsV s) i.toNat
      have hwi0 := hw0 i (Int.le_refl _) i1
      have hsucc : (i + 1).toNat = i.toNat + 1 := by omega
      have hti : ((i.toNat : Nat) : Int) = i := by omega
      try simp only
      rw [cnd_pos _ _ (decide_eq_true (by rw [← hnl]; exact i1)), elimO_eq _ _ hph, elimO_eq _ _ (pclear_e hx h hc hph)]
      simp only [hle]
      rw [joinPt_app]
      have fin : ∀ ws' : List Int, llen ws' = (nV s : Int) → (∀ j, 0 ≤ j → j < i + 1 → idx ws' j = some (wishV s p j)) → (∀ j, i + 1 ≤ j → j < (nV s : Int) → idx ws' j = some 0) → UpRound (fun z : St1 => z.1) (fun z => z.2.1 = cycV s p - roundTo s z.1.toNat ∧ z.2.2.1 = sumT (wishV s p) z.1.toNat ∧ z.2.2.2.1 = firstT (wishV s p) z.1.toNat ∧ z.2.2.2.2.1 = ((cycV s p, offV s p), (listT (needsV s) z.1.toNat, ())) ∧ llen z.2.2.2.2.2 = (nV s : Int) ∧ (∀ j, 0 ≤ j → j < z.1 → idx z.2.2.2.2.2 j = some (wishV s p j)) ∧ ∀ j, z.1 ≤ j → j < (nV s : Int) → idx z.2.2.2.2.2 j = some 0) (fun r : Option (PSPlan × Int) => r = some (clampV s p, (0 : Int))) i (.next (i + 1, (cycV s p - roundTo s i.toNat - needsV s i, (sumT (wishV s p) i.toNat + wishV s p i, ((if 0 < wishV s p i ∧ firstT (wishV s p) i.toNat < 0 then i else firstT (wishV s p) i.toNat), (((cycV s p, offV s p), (listT (needsV s) i.toNat ++ [needsV s i], ())), ws')))))) := fun ws' a1 a2 a3 => by
        refine ⟨rfl, ?_, ?_, ?_, ?_, a1, a2, a3⟩
        · simp only; rw [hsucc, roundTo, hti]; omega
        · simp only; rw [hsucc, sumT, hti]
        · simp only; rw [hsucc, firstT, hti]
        · simp only; rw [hsucc, listT_succ, hti]
      by_cases c : i < llen p.2.2
      · have hsp := idx_el (l := p.2.2) i0 c
        have hwv : max 0 (wr .i64 (min (max 0 (el p.2.2 i)) s.2.2.2.2.2.2.2.2.2.2.1 - needsV s i)) = wishV s p i := by
          have hh : highV s = s.2.2.2.2.2.2.2.2.2.2.1 := rfl
          rw [wr_i64 _ (by omega) (by omega)]
          unfold wishV
          rw [if_pos c]; rfl
        rw [cnd_pos _ _ (decide_eq_true c), elimO_eq _ _ hsp, elimO_eq _ _ hwi0, elimO_eq _ _ hwi0]
        simp only [hwv]
        have hset : ∀ j, idx (lset ws i (wishV s p i)) j = if j = i then some (wishV s p i) else idx ws j := fun j => idx_lset i0 (by omega) _ j
        rw [clamp_tail (w := wishV s p i) ⟨i0, by omega⟩ (by rw [hset, if_pos rfl]) (by omega) (by omega) (by omega)]
        exact fin _ (by rw [llen_lset]; exact hwl) (fun j j0 j1 => by
          rw [hset]
          split
          · rename_i ej; rw [ej]
          · exact hws j j0 (by omega)) (fun j j0 j1 => by rw [hset, if_neg (by omega)]; exact hw0 j (by omega) j1)
      · have hwv : wishV s p i = 0 := by unfold wishV; rw [if_neg c]
        rw [cnd_neg _ _ (decide_eq_false c)]
        try simp only
        rw [clamp_tail (w := wishV s p i) ⟨i0, by omega⟩ (by rw [hwv]; exact hwi0) (by omega) (by omega) (by omega)]
        exact fin _ hwl (fun j j0 j1 => by
          by_cases ej : j = i
          · rw [ej, hwv]; exact hwi0
          · exact hws j j0 (by omega)) (fun j j0 j1 => hw0 j (by omega) j1)
    · obtain ⟨i, rest, all, first, bx, ws⟩ := z
      obtain ⟨hr, ha, hf, hb, hwl, hws, _⟩ := hI
      simp only at hz hr ha hf hb hwl hws
      subst hz
      rw [Int.toNat_natCast] at hr ha hf hb
      have hrV : rest = restV s p := hr
      have haV : all = allV s p := ha
      subst hrV haV hf hb
      obtain ⟨r1, r2⟩ := N.rest
      have hlist := listT_len (needsV s) (nV s)
      have hal := N.all (nV s) (Nat.le_refl _)
      have hal1 : 0 ≤ allV s p := hal.1
      have hal2 : allV s p ≤ 1048576 * (nV s : Int) := hal.2
      try simp only
      rw [cnd_neg _ _ (decide_eq_false (by rw [← hnl]; omega))]
      have hst : ∀ i, 0 ≤ i → i < (nV s : Int) → 0 ≤ shareV s p i ∧ shareV s p i ≤ 1048576 := fun i i0 i1 => by
        have a1 := N.share i i0 i1
        have a2 := N.shares i.toNat (by omega)
        have a3 := N.shares (i.toNat + 1) (by omega)
        rw [sumT, show ((i.toNat : Nat) : Int) = i by omega] at a3
        omega
      refine iter_up (fun z : Int × Int × (Int × Int) × List Int × Unit => z.1) (nV s : Int) (fun z => z.2.1 = restV s p - sumT (shareV s p) z.1.toNat ∧ z.2.2.1 = (cycV s p, offV s p) ∧ llen z.2.2.2.1 = (nV s : Int) ∧ (∀ j, 0 ≤ j → j < z.1 → idx z.2.2.2.1 j = some (partV s p j)) ∧ ∀ j, 0 ≤ j → z.1 ≤ j → j < (nV s : Int) → idx z.2.2.2.1 j = some (needsV s j)) (fun r => EndRound (fun r => r = some (clampV s p, (0 : Int))) (.done r : Step St1 (Option (PSPlan × Int)))) (by omega) (by simp) (by simp only; omega) ⟨by simp [sumT], rfl, hlist, fun j j0 j1 => absurd j1 (by simp only; omega), fun j j0 _ j1 => listT_idx j0 j1⟩ (fun z hI i0 i1 => ?_) (fun z hI hz => ?_)
      · obtain ⟨i, left, co, sp, u⟩ := z
        obtain ⟨hl, hco, hsl, hsp, hsn⟩ := hI
        simp only at i0 i1 hl hco hsl hsp hsn
        subst hl hco
        have hsi := hsn i i0 (Int.le_refl _) i1
        have hni := needs_in hx h i0 (by rw [← hnl]; exact i1)
        have hsucc : (i + 1).toNat = i.toNat + 1 := by omega
        have hti : ((i.toNat : Nat) : Int) = i := by omega
        have hsh := hst i i0 i1
        have hss := N.shares i.toNat (by omega)
        try simp only
        rw [cnd_pos _ _ (decide_eq_true (by rw [hlist]; exact i1)), wr_i64 (i + 1) (by omega) (by omega)]
        by_cases c : 0 < allV s p
        · have hwi := N.wish i i0 i1
          have hmul : 0 ≤ restV s p * wishV s p i ∧ restV s p * wishV s p i ≤ 1048576 * 1048576 := ⟨Int.mul_nonneg r1 hwi.1, Int.mul_le_mul r2 hwi.2 hwi.1 (by omega)⟩
          have hsv : restV s p * wishV s p i / allV s p = shareV s p i := by unfold shareV; rw [if_pos c]
          have hq : quoop .i64 (wr .i64 (restV s p * wishV s p i)) (allV s p) = shareV s p i := by
            rw [wr_i64 _ (by omega) (by omega), quo_e hmul.1 c (by rw [hsv]; omega), hsv]
          rw [cnd_pos _ _ (decide_eq_true c), elimO_eq _ _ (hws i i0 i1), cnd_pos _ _ (by simp; omega), elimO_eq _ _ hsi, elimO_eq _ _ hsi, elimO_eq _ _ hsi, elimO_eq _ _ hsi]
          simp only [hq]
          rw [wr_i64 (needsV s i + shareV s p i) (by omega) (by omega), wr_i64 (restV s p - sumT (shareV s p) i.toNat - shareV s p i) (by omega) (by omega)]
          have hset : ∀ j, idx (lset sp i (needsV s i + shareV s p i)) j = if j = i then some (needsV s i + shareV s p i) else idx sp j := fun j => idx_lset i0 (by omega) _ j
          refine ⟨rfl, ?_, rfl, by (try simp only); rw [llen_lset]; exact hsl, fun j j0 j1 => ?_, fun j j0 j1 j2 => ?_⟩
          · simp only; rw [hsucc, sumT, hti]; omega
          · simp only at j1 ⊢
            rw [hset]
            split
            · rename_i ej; rw [ej]; rfl
            · exact hsp j j0 (by omega)
          · simp only at j1 ⊢
            rw [hset, if_neg (by omega)]
            exact hsn j j0 (by omega) j2
        · have hs0 : ∀ j, shareV s p j = 0 := fun j => by unfold shareV; rw [if_neg c]
          rw [cnd_neg _ _ (decide_eq_false c)]
          refine ⟨rfl, ?_, rfl, hsl, fun j j0 j1 => ?_, fun j j0 j1 j2 => hsn j j0 (by simp only at j1; omega) j2⟩
          · simp only; rw [hsucc, sumT, hti, hs0]; omega
          · simp only at j1 ⊢
            by_cases ej : j = i
            · rw [ej, hsi]; unfold partV; rw [hs0, Int.add_zero]
            · exact hsp j j0 (by omega)
      · obtain ⟨i, left, co, sp, u⟩ := z
        obtain ⟨hl, hco, hsl, hsp, _⟩ := hI
        simp only at hz hl hco hsl hsp
        subst hz
        rw [Int.toNat_natCast] at hl
        have hlV : left = leftV s p := hl
        subst hlV hco
        obtain ⟨a0, a1⟩ := N.at_
        have hat : max 0 (firstT (wishV s p) (nV s)) = atV s p := rfl
        have hsa := hsp (atV s p) a0 a1
        have hpa := hst (atV s p) a0 a1
        have hna := needs_in hx h a0 (by rw [← hnl]; exact a1)
        have hlf : 0 ≤ leftV s p ∧ leftV s p ≤ 1048576 := by
          have := N.shares (nV s) (Nat.le_refl _)
          unfold leftV; omega
        try simp only [hat]
        rw [cnd_neg _ _ (decide_eq_false (by rw [hlist]; omega)), elimO_eq _ _ hsa, elimO_eq _ _ hsa, elimO_eq _ _ hsa, elimO_eq _ _ hsa, wr_i64 _ (by unfold partV; omega) (by unfold partV; omega)]
        show some _ = some _
        have hfin : lset sp (atV s p) (partV s p (atV s p) + leftV s p) = listT (splitV s p) (nV s) := by
          refine idx_ext (by rw [llen_lset, hsl, listT_len]) fun j j0 j1 => ?_
          rw [llen_lset, hsl] at j1
          rw [idx_lset a0 (by omega), listT_idx j0 j1]
          unfold splitV
          by_cases ej : j = atV s p
          · rw [if_pos ej, if_pos ej, ej]
          · rw [if_neg ej, if_neg ej]; exact hsp j j0 j1
        rw [hfin]
        rfl
  · rw [cnd_pos _ _ (by simp [h0]), if_pos h0]

end Go.Proofs.YtfdnmjabjmedgaaDoor
