/- Part of a proof: plain readings of Go functions, their contracts, or plain facts of them. -/
import Derived.Test.YtiacnaijablgcaaDoorEyeE
namespace Go.Proofs.YtiacnaijablgcaaDoor
open Go.Den

/-! # When a detector is ill -/
def said (l : List Bool) (k : Int) : Bool := (idx l k).getD false
theorem said_get {l : List Bool} {k : Int} {b : Bool} (h : idx l k = some b) : said l k = b := by unfold said; rw [h]; rfl
theorem said_neg {l : List Bool} {k : Int} (h : k < 0) : said l k = false := by unfold said idx; rw [if_neg (by omega)]; rfl
theorem idx_said {l : List Bool} {k : Int} (h0 : 0 ≤ k) (h1 : k < llen l) : idx l k = some (said l k) := by
  obtain ⟨b, hb, _⟩ := idx_get h0 h1
  rw [said_get hb]; exact hb

def turnedAt (l : List Bool) (k : Int) : Bool := !(said l k == said l (k - 1))

structure RunIs (l : List Bool) (k r : Int) : Prop where
  lo : 1 ≤ r
  hi : r ≤ k + 1
  same : ∀ j, k - r < j → j ≤ k → said l j = said l k
  other : r ≤ k → said l (k - r) ≠ said l k

structure TurnsAre (l : List Bool) (k t : Int) : Prop where
  ok : U64ok t
  bits : ∀ j : Nat, j < 64 → t.toNat.testBit j = (decide ((j : Int) < k) && turnedAt l (k - 1 - j))

theorem turns_next {l : List Bool} {k : Int} {x : PSLooked} (hk : 0 ≤ k) (h : TurnsAre l k x.2.2.1) (hu : x.1 = said l (k - 1)) : TurnsAre l (k + 1) (newT x (said l k)) := by
  obtain ⟨n, e, hn⟩ := u64_nat h.ok
  refine ⟨newT_ok h.ok _, fun j hj => ?_⟩
  have hb := h.bits
  rw [e, Int.toNat_natCast] at hb
  obtain ⟨h1, h2⟩ := newT_nat e hn (said l k)
  rw [h1, Int.toNat_natCast]
  obtain ⟨_, g2, g3⟩ := shl_nat hn
  by_cases c : said l k = x.1
  · rw [if_pos c, Nat.add_zero, testBit_double _ _ hn]
    cases j with
    | zero =>
      have : turnedAt l (k + 1 - 1 - (0 : Nat)) = false := by
        unfold turnedAt
        rw [show k + 1 - 1 - ((0 : Nat) : Int) = k by omega, c, hu]; simp
      rw [this]; simp
    | succ j =>
      have := hb j (by omega)
      rw [Nat.add_sub_cancel, this, show k + 1 - 1 - ((j + 1 : Nat) : Int) = k - 1 - (j : Int) by omega]
      have e1 : decide (((j + 1 : Nat) : Int) < k + 1) = decide ((j : Int) < k) := by
        apply Bool.eq_iff_iff.2; simp only [decide_eq_true_eq]; omega
      rw [e1]; simp [hj]
  · rw [if_neg c, ← or_one g3, testBit_or_one, testBit_double _ _ hn]
    cases j with
    | zero =>
      have : turnedAt l (k + 1 - 1 - (0 : Nat)) = true := by
        unfold turnedAt
        rw [show k + 1 - 1 - ((0 : Nat) : Int) = k by omega, ← hu]; simp [c]
      rw [this]
      have e1 : decide (((0 : Nat) : Int) < k + 1) = true := by simp; omega
      rw [e1]; simp
    | succ j =>
      have := hb j (by omega)
      rw [Nat.add_sub_cancel, this, show k + 1 - 1 - ((j + 1 : Nat) : Int) = k - 1 - (j : Int) by omega]
      have e1 : decide (((j + 1 : Nat) : Int) < k + 1) = decide ((j : Int) < k) := by
        apply Bool.eq_iff_iff.2; simp only [decide_eq_true_eq]; omega
      rw [e1]; simp [hj]

theorem run_next {l : List Bool} {k : Int} {x : PSLooked} (hk : 0 ≤ k) (hk2 : k ≤ 1000) (h : (k = 0 ∧ x.2.1 = 0) ∨ RunIs l (k - 1) x.2.1) (hu : x.1 = said l (k - 1)) : RunIs l k (newS x (said l k)) := by
  unfold newS
  rcases h with ⟨rfl, h⟩ | h
  · rw [h]
    have one : RunIs l 0 1 := ⟨by omega, by omega, fun j h1 h2 => by rw [show j = 0 by omega], fun h => by omega⟩
    split
    · exact one
    · exact one
  · have h1 := h.lo
    have h2 := h.hi
    split
    · rename_i c
      rw [show min (x.2.1 + 1) 1048576 = x.2.1 + 1 by omega]
      refine ⟨by omega, by omega, fun j j1 j2 => ?_, fun hr => ?_⟩
      · by_cases e : j = k
        · rw [e]
        · rw [h.same j (by omega) (by omega), ← hu, c]
      · have := h.other (by omega)
        rw [show k - (x.2.1 + 1) = k - 1 - x.2.1 by omega, c, hu]
        exact this
    · rename_i c
      exact ⟨by omega, by omega, fun j j1 j2 => by rw [show j = k by omega], fun hr => by rw [← hu]; exact fun e => c e.symm⟩

theorem cntN_none {x a n : Nat} (h : ∀ i, i < n → x.testBit (a + i) = false) : cntN x a n = 0 := by
  unfold cntN
  rw [List.length_eq_zero_iff, List.filter_eq_nil_iff]
  intro i hi
  rw [h i (by simpa using hi)]; decide
theorem cntN_one (x a : Nat) : cntN x a 1 = if x.testBit a = true then 1 else 0 := by
  unfold cntN
  simp only [List.range_one, List.filter_cons, List.filter_nil, Nat.add_zero]
  split <;> rfl

theorem turns_s {l : List Bool} {k t : Int} (hk : 0 ≤ k) (hkl : k < llen l) (hl : llen l ≤ 1000) (h : TurnsAre l (k + 1) t) : law13_turns_t (l, k) = some (cnt64 t) := by
  unfold law13_turns_t
  rw [wr_i64 (k - 63) (by omega) (by omega), gmax_eq]
  refine iter_up (fun s => s.2) (k + 1) (fun s => max 0 (k - 63) ≤ s.2 ∧ s.1 = ((cntN t.toNat (k + 1 - s.2).toNat (64 - (k + 1 - s.2)).toNat : Nat) : Int)) (fun a => a = some (cnt64 t)) (by omega) (by simp only; omega) (by simp only; omega) ⟨by simp only; omega, ?_⟩ (fun s hI i0 i1 => ?_) (fun s hI he => ?_)
  · simp only
    rw [cntN_none]
    · rfl
    · intro i hi
      rw [h.bits _ (by omega)]
      have : decide ((((k + 1 - max 0 (k - 63)).toNat + i : Nat) : Int) < k + 1) = false := by simp; omega
      rw [this]; rfl
  · obtain ⟨n, i⟩ := s
    obtain ⟨hm, hn⟩ := hI
    simp only at hm hn i0 i1
    have hle := cntN_le t.toNat (k + 1 - i).toNat (64 - (k + 1 - i)).toNat
    have hstep : cntN t.toNat (k + 1 - (i + 1)).toNat (64 - (k + 1 - (i + 1))).toNat = (if turnedAt l i = true then 1 else 0) + cntN t.toNat (k + 1 - i).toNat (64 - (k + 1 - i)).toNat := by
      rw [show (64 - (k + 1 - (i + 1))).toNat = 1 + (64 - (k + 1 - i)).toNat by omega, cntN_add, cntN_one, h.bits _ (by omega), show k + 1 - 1 - (((k + 1 - (i + 1)).toNat : Nat) : Int) = i by omega, show (k + 1 - (i + 1)).toNat + 1 = (k + 1 - i).toNat by omega]
      have : decide (((k + 1 - (i + 1)).toNat : Int) < k + 1) = true := by simp; omega
      rw [this, Bool.true_and]
    have fin : ∀ b : Bool, b = turnedAt l i → UpRound (fun s : Int × Int => s.2) (fun s => max 0 (k - 63) ≤ s.2 ∧ s.1 = ((cntN t.toNat (k + 1 - s.2).toNat (64 - (k + 1 - s.2)).toNat : Nat) : Int)) (fun a : Option Int => a = some (cnt64 t)) i (cnd b (.next ((wr .i64 (n + 1)), (wr .i64 (i + 1)))) (.next (n, (wr .i64 (i + 1))))) := fun b hb => by
      rw [wr_i64 (n + 1) (by omega) (by omega), wr_i64 (i + 1) (by omega) (by omega)]
      cases b with
      | true => exact ⟨rfl, by simp only; omega, by simp only; rw [hstep, ← hb, hn]; simp; omega⟩
      | false => exact ⟨rfl, by simp only; omega, by simp only; rw [hstep, ← hb, hn]; simp⟩
    simp only
    rw [cnd_pos _ _ (show decide (i ≤ k) = true by simp; omega)]
    by_cases c : 0 < i
    · rw [cnd_pos _ _ (by simpa using c), wr_i64 (i - 1) (by omega) (by omega), elimO_eq _ _ (idx_said (by omega) (by omega)), elimO_eq _ _ (idx_said i0 (by omega))]
      exact fin _ rfl
    · have hi : i = 0 := by omega
      rw [cnd_neg _ _ (by simpa using c), elimO_eq _ _ (idx_said i0 (by omega))]
      refine fin _ ?_
      unfold turnedAt
      rw [said_neg (show i - 1 < 0 by omega)]
  · obtain ⟨n, i⟩ := s
    obtain ⟨_, hn⟩ := hI
    simp only at hn he
    simp only
    rw [cnd_neg _ _ (show decide (i ≤ k) = false by simp; omega)]
    show some n = _
    rw [hn, he, show k + 1 - (k + 1) = 0 by omega]
    rfl

theorem ill_s {e : PSEye} {l : List Bool} {k r t : Int} (hk : 0 ≤ k) (hkl : k < llen l) (hl : llen l ≤ 1000) (hr : RunIs l k r) (ht : TurnsAre l (k + 1) t) : law13_ill_t (e, (l, k)) = some (illB e (said l k) r t) := by
  have h1 := hr.lo
  have h2 := hr.hi
  have tail : elimO (idx l k) none (fun x4 => cnd (x4 && (decide (e.2.1 ≤ r))) (some true) (elimO (idx l k) none (fun x5 => cnd ((!x5) && (decide (e.2.2.1 ≤ r))) (some true) (elimO (law13_turns_t (l, k)) none (fun x6 => (some (decide (e.2.2.2 < x6)))))))) = some (illB e (said l k) r t) := by
    rw [elimO_eq _ _ (idx_said hk hkl), elimO_eq _ _ (idx_said hk hkl), elimO_eq _ _ (turns_s hk hkl hl ht)]
    unfold illB
    cases said l k <;> simp only [Bool.true_and, Bool.false_and, Bool.not_true, Bool.not_false, cnd_false, Bool.false_or, Bool.or_false] <;> rw [cnd_if] <;> split <;> rename_i c <;> simp [c]
  unfold law13_ill_t
  refine iter_ind (fun s => -1 ≤ s.2 ∧ s.2 ≤ k ∧ s.1 = k - s.2 ∧ s.1 ≤ r) (fun s => (s.2 + 1).toNat) (fun a => a = some (illB e (said l k) r t)) ?_ lots (0, k) ⟨by simp only; omega, by simp only; omega, by simp only; omega, by simp only; omega⟩ (by rw [lots_eq]; simp only; omega)
  rintro ⟨n, i⟩ ⟨i0, i1, hn, hnr⟩
  simp only at i0 i1 hn hnr
  simp only
  by_cases c : 0 ≤ i
  · rw [cnd_pos _ _ (by simpa using c), elimO_eq _ _ (idx_said c (by omega)), elimO_eq _ _ (idx_said hk hkl)]
    by_cases e1 : said l i = said l k
    · rw [cnd_pos _ _ (by simpa using e1), wr_i64 (n + 1) (by omega) (by omega), wr_i64 (i - 1) (by omega) (by omega)]
      have : n < r := by
        apply Int.not_le.1
        intro hh
        have := hr.other (by omega)
        rw [show k - r = i by omega] at this
        exact this e1
      exact ⟨⟨by simp only; omega, by simp only; omega, by simp only; omega, by simp only; omega⟩, by simp only; omega⟩
    · rw [cnd_neg _ _ (by simpa using e1)]
      have : n = r := by
        apply Int.le_antisymm hnr
        apply Int.not_lt.1
        intro hh
        exact e1 (hr.same i (by omega) (by omega))
      rw [this]
      exact tail
  · rw [cnd_neg _ _ (by simpa using c)]
    have : n = r := by omega
    rw [this]
    exact tail

structure Goes (s : PSSite) (l : List Bool) (bad : Bool) (well k : Int) (x : PSLooked) : Prop where
  up : x.1 = said l (k - 1)
  run : (k = 0 ∧ x.2.1 = 0) ∨ RunIs l (k - 1) x.2.1
  turns : TurnsAre l k x.2.2.1
  may : MayOK x
  sick : bad = x.2.2.2.1
  count : bad = true → x.2.2.2.2 = well
  lo : 0 ≤ well
  hi : well ≤ k

theorem eyeIll_law (x : PSSite × Int × List Bool) (hf : FitsAll [SSite, I64, Bos] x) : law13_EyeIll_t x = some true := by
  obtain ⟨s, i, l⟩ := x
  have hs : SFits s := sfits hf.1
  unfold law13_EyeIll_t
  obtain ⟨g, hg⟩ := great_s s hs
  rw [elimO_eq _ _ alive13, cnd_neg _ _ (by rfl), elimO_eq _ _ hg, cnd_if]
  split
  · rfl
  rename_i h1
  have hl : llen l ≤ 160 := by simp at h1; omega
  obtain ⟨e, h2, h3⟩ := check_s hs
  rw [elimO_eq _ _ h2, cnd_if]
  split
  · rfl
  rename_i h4
  simp only [Bool.or_eq_true, Bool.not_eq_true', beq_eq_false_iff_ne, ne_eq, decide_eq_true_eq, not_or, Decidable.not_not] at h4
  obtain ⟨⟨rfl, i0⟩, i1⟩ := h4
  have hok := check_ok h3 rfl
  have hheal := hok.timed.heal
  have he : idx s.2.2.2.2.2.1 i = some (el s.2.2.2.2.2.1 i) := idx_el (by omega) (by omega)
  refine iter_up (fun z : Bool × Int × Int × PSLooked => z.2.2.1) (llen l) (fun z => Goes s l z.1 z.2.1 z.2.2.1 z.2.2.2) (fun a => a = some true) (by omega) (by simp) (llen_nonneg l) ⟨by rw [said_neg (by simp)], .inl ⟨rfl, rfl⟩, ⟨⟨by decide, by decide⟩, fun j hj => by simp; intro h; omega⟩, zero_ok, rfl, fun h => (by cases h), by simp, by simp⟩ (fun z hI k0 k1 => ?_) (fun z hI hz => ?_)
  · obtain ⟨bad, well, k, x⟩ := z
    simp only at hI k0 k1
    have m1 := hI.may
    have w0 := hI.lo
    have w1 := hI.hi
    simp only
    rw [cnd_pos _ _ (by simpa using k1), elimO_eq _ _ (idx_said k0 k1)]
    have hn : eye_Next_t (s, (i, (x, said l k))) = some (stepV s (el s.2.2.2.2.2.1 i) x (said l k), 0) := by
      rw [next_e h2]
      unfold nextE
      rw [if_neg (by simp), if_neg (by omega), if_pos ((may_iff x).2 m1)]
    have hr := run_next (x := x) k0 (by omega) hI.run hI.up
    have ht := turns_next (x := x) k0 hI.turns hI.up
    rw [elimO_eq _ _ hn, cnd_neg _ _ (by rfl), elimO_eq _ _ he, elimO_eq _ _ (ill_s k0 k1 (by omega) hr ht)]
    rw [wr_i64 (well + 1) (by omega) (by omega), wr_i64 (k + 1) (by omega) (by omega)]
    have hy := (stepV_ok (s := s) (e := el s.2.2.2.2.2.1 i) (said l k) m1 hheal.2).1
    have y1 : (stepV s (el s.2.2.2.2.2.1 i) x (said l k)).1 = said l k := rfl
    have y2 : (stepV s (el s.2.2.2.2.2.1 i) x (said l k)).2.1 = newS x (said l k) := rfl
    have y3 : (stepV s (el s.2.2.2.2.2.1 i) x (said l k)).2.2.1 = newT x (said l k) := rfl
    have y4 : (stepV s (el s.2.2.2.2.2.1 i) x (said l k)).2.2.2 = if illB (el s.2.2.2.2.2.1 i) (said l k) (newS x (said l k)) (newT x (said l k)) = true then (true, 0) else
      if x.2.2.2.1 = true then (if s.2.2.2.2.2.2.2.2.1 ≤ x.2.2.2.2 + 1 then (false, 0) else (true, x.2.2.2.2 + 1)) else (false, x.2.2.2.2) := rfl
    generalize stepV s (el s.2.2.2.2.2.1 i) x (said l k) = y at hy y1 y2 y3 y4
    have next : ∀ (b : Bool) (w : Int), b = y.2.2.2.1 → (b = true → y.2.2.2.2 = w) → 0 ≤ w → w ≤ k + 1 → UpRound (fun z : Bool × Int × Int × PSLooked => z.2.2.1) (fun z => Goes s l z.1 z.2.1 z.2.2.1 z.2.2.2) (fun a : Option Bool => a = some true) k (.next (b, (w, (k + 1, y)))) := fun b w a1 a2 a3 a4 =>
      ⟨rfl, ⟨by rw [y1, show k + 1 - 1 = k by omega], .inr (by rw [y2, show k + 1 - 1 = k by omega]; exact hr), by rw [y3]; exact ht, hy, a1, a2, a3, a4⟩⟩
    have hW : eye_Wants y = (said l k || y.2.2.2.1) := by rw [← y1]; rfl
    have hB : eye_Believed y = !y.2.2.2.1 := rfl
    simp only [letK_app, hW, hB]
    cases hill : illB (el s.2.2.2.2.2.1 i) (said l k) (newS x (said l k)) (newT x (said l k)) with
    | true =>
      rw [hill, if_pos rfl] at y4
      have b1 : y.2.2.2.1 = true := by rw [y4]
      have b2 : y.2.2.2.2 = 0 := by rw [y4]
      rw [cnd_pos _ _ rfl, cnd_neg _ _ (show decide (s.2.2.2.2.2.2.2.2.1 ≤ 0) = false by simp; omega), b1]
      rw [cnd_neg _ _ (by rfl), b2, cnd_neg _ _ (by simp)]
      exact next true 0 b1.symm (fun _ => b2) (by omega) (by omega)
    | false =>
      rw [hill, if_neg (by simp)] at y4
      rw [cnd_neg _ _ rfl]
      cases hb : bad with
      | true =>
        have xb : x.2.2.2.1 = true := by rw [← hI.sick, hb]
        have xw : x.2.2.2.2 = well := hI.count hb
        rw [if_pos xb, xw] at y4
        by_cases c : s.2.2.2.2.2.2.2.2.1 ≤ well + 1
        · rw [if_pos c] at y4
          have b1 : y.2.2.2.1 = false := by rw [y4]
          rw [cnd_pos _ _ (by simpa using c), b1, cnd_neg _ _ (by rfl), elimO_eq _ _ (idx_said k0 k1), cnd_neg _ _ (by simp)]
          exact next false (well + 1) b1.symm (fun h => (by cases h)) (by omega) (by omega)
        · rw [if_neg c] at y4
          have b1 : y.2.2.2.1 = true := by rw [y4]
          have b2 : y.2.2.2.2 = well + 1 := by rw [y4]
          rw [cnd_neg _ _ (by simpa using c), b1, cnd_neg _ _ (by rfl), cnd_pos _ _ rfl, b2, cnd_neg _ _ (by simp)]
          exact next true (well + 1) b1.symm (fun _ => b2) (by omega) (by omega)
      | false =>
        have xb : x.2.2.2.1 = false := by rw [← hI.sick, hb]
        rw [if_neg (by simp [xb])] at y4
        have b1 : y.2.2.2.1 = false := by rw [y4]
        rw [cnd_neg _ _ (by rfl), b1, cnd_neg _ _ (by rfl), cnd_neg _ _ rfl, elimO_eq _ _ (idx_said k0 k1), cnd_neg _ _ (by simp)]
        exact next false (well + 1) b1.symm (fun h => (by cases h)) (by omega) (by omega)
  · obtain ⟨bad, well, k, x⟩ := z
    simp only at hz
    simp only
    rw [cnd_neg _ _ (show decide (k < llen l) = false by simp; omega)]
    rfl

end Go.Proofs.YtiacnaijablgcaaDoor
