/- Part of a proof: plain readings of Go functions, their contracts, or plain facts of them. -/
import Derived.Test.YtlddjfgbepbmdaaDoorSeqU
namespace Go.Proofs.YtlddjfgbepbmdaaDoor
open Go.Den

/-! # The sequencer, plainly -/
def callB (s : PSSite) (calls k : Int) : Bool := (el s.2.2.2.2.1 k).2.2.2.2 || bitI calls k
/-- the phase i places behind one, going round -/
def roundP (s : PSSite) (p i : Int) : Int := (p + i).tmod (llen s.2.2.2.2.1)

theorem roundP_lt {s : PSSite} {p i : Int} (p0 : 0 ≤ p) (i0 : 0 ≤ i) (h : p + i < llen s.2.2.2.2.1) : roundP s p i = p + i := by
  unfold roundP
  rw [Int.tmod_eq_emod_of_nonneg (by omega), Int.emod_eq_of_lt (by omega) h]
theorem roundP_ge {s : PSSite} {p i : Int} (h1 : llen s.2.2.2.2.1 ≤ p + i) (h2 : p + i < 2 * llen s.2.2.2.2.1) : roundP s p i = p + i - llen s.2.2.2.2.1 := by
  unfold roundP
  have hn := llen_nonneg s.2.2.2.2.1
  rw [Int.tmod_eq_emod_of_nonneg (by omega)]
  have e : p + i = (p + i - llen s.2.2.2.2.1) + llen s.2.2.2.2.1 * 1 := by omega
  rw [e, Int.add_mul_emod_self_left, Int.emod_eq_of_lt (by omega) (by omega)]
  omega
theorem roundP_in {s : PSSite} {p i : Int} (p0 : 0 ≤ p) (p1 : p < llen s.2.2.2.2.1) (i0 : 0 ≤ i) (i1 : i ≤ llen s.2.2.2.2.1) : 0 ≤ roundP s p i ∧ roundP s p i < llen s.2.2.2.2.1 := by
  by_cases c : p + i < llen s.2.2.2.2.1
  · rw [roundP_lt p0 i0 c]; omega
  · rw [roundP_ge (by omega) (by omega)]; omega
theorem roundP_ex {s : PSSite} {p k : Int} (p0 : 0 ≤ p) (p1 : p < llen s.2.2.2.2.1) (k0 : 0 ≤ k) (k1 : k < llen s.2.2.2.2.1) (hk : k ≠ p) : ∃ i, 1 ≤ i ∧ i < llen s.2.2.2.2.1 ∧ roundP s p i = k ∧ (i = k - p ∨ i = k - p + llen s.2.2.2.2.1) := by
  by_cases c : p < k
  · exact ⟨k - p, by omega, by omega, by rw [roundP_lt p0 (by omega) (by omega)]; omega, .inl rfl⟩
  · exact ⟨k - p + llen s.2.2.2.2.1, by omega, by omega, by rw [roundP_ge (by omega) (by omega)]; omega, .inr rfl⟩
theorem roundP_ne {s : PSSite} {p i : Int} (p0 : 0 ≤ p) (p1 : p < llen s.2.2.2.2.1) (i0 : 1 ≤ i) (i1 : i < llen s.2.2.2.2.1) : roundP s p i ≠ p := by
  by_cases c : p + i < llen s.2.2.2.2.1
  · rw [roundP_lt p0 (by omega) c]; omega
  · rw [roundP_ge (by omega) (by omega)]; omega

/-- where the sequencer is a tick later -/
structure NextIs (s : PSSite) (q : PSSeq) (full : Bool) (calls gaps : Int) (q' : PSSeq) : Prop where
  off : full = false → q' = (q.1, 0)
  stay : full = true → (min (q.2 + 1) 1048576 < (el s.2.2.2.2.1 q.1).2.1 ∨ (bitI gaps q.1 = false ∧ min (q.2 + 1) 1048576 < (el s.2.2.2.2.1 q.1).2.2.1) ∨ ∀ i, 1 ≤ i → i < llen s.2.2.2.2.1 → callB s calls (roundP s q.1 i) = false) → q' = (q.1, min (q.2 + 1) 1048576)
  move : full = true → ¬ (min (q.2 + 1) 1048576 < (el s.2.2.2.2.1 q.1).2.1 ∨ (bitI gaps q.1 = false ∧ min (q.2 + 1) 1048576 < (el s.2.2.2.2.1 q.1).2.2.1) ∨ ∀ i, 1 ≤ i → i < llen s.2.2.2.2.1 → callB s calls (roundP s q.1 i) = false) →
    ∃ i, 1 ≤ i ∧ i < llen s.2.2.2.2.1 ∧ callB s calls (roundP s q.1 i) = true ∧ (∀ j, 1 ≤ j → j < i → callB s calls (roundP s q.1 j) = false) ∧ q' = (roundP s q.1 i, 0)

theorem next_unique {s : PSSite} {q : PSSeq} {full : Bool} {calls gaps : Int} {a b : PSSeq} (h : NextIs s q full calls gaps a) (g : NextIs s q full calls gaps b) : a = b := by
  cases full with
  | false => rw [h.off rfl, g.off rfl]
  | true =>
    by_cases c : (min (q.2 + 1) 1048576 < (el s.2.2.2.2.1 q.1).2.1 ∨ (bitI gaps q.1 = false ∧ min (q.2 + 1) 1048576 < (el s.2.2.2.2.1 q.1).2.2.1) ∨ ∀ i, 1 ≤ i → i < llen s.2.2.2.2.1 → callB s calls (roundP s q.1 i) = false)
    · rw [h.stay rfl c, g.stay rfl c]
    · obtain ⟨i, i0, i1, i2, i3, e1⟩ := h.move rfl c
      obtain ⟨j, j0, j1, j2, j3, e2⟩ := g.move rfl c
      have : i = j := by
        rcases Int.lt_trichotomy i j with hh | hh | hh
        · have := j3 i i0 hh; rw [i2] at this; cases this
        · exact hh
        · have := i3 j j0 hh; rw [j2] at this; cases this
      rw [e1, e2, this]

/-! ## the phases that are called -/
theorem called_e {s : PSSite} (hm : llen s.2.2.2.2.1 ≤ 8) {calls : Int} (hu : U32ok calls) : ∃ l, seq_called_t (s, calls) = some l ∧ U32ok l ∧ ∀ j, 0 ≤ j → bitI l j = (decide (j < llen s.2.2.2.2.1) && callB s calls j) := by
  have hn := llen_nonneg s.2.2.2.2.1
  unfold seq_called_t
  refine iter_up (fun z : Int × Int => z.2) (llen s.2.2.2.2.1) (fun z => U32ok z.1 ∧ ∀ j, 0 ≤ j → bitI z.1 j = (decide (j < z.2) && callB s calls j)) (fun r => ∃ l, r = some l ∧ U32ok l ∧ ∀ j, 0 ≤ j → bitI l j = (decide (j < llen s.2.2.2.2.1) && callB s calls j)) (by omega) (by simp) hn ⟨⟨by simp, by simp⟩, fun j j0 => by rw [bit_zero, decide_eq_false (by simp only; omega)]; rfl⟩ (fun z hI i0 i1 => ?_) (fun z hI hz => ?_)
  · obtain ⟨l, i⟩ := z
    obtain ⟨hl, hj⟩ := hI
    simp only at i0 i1 hl hj
    have hd : decide (0 ≤ i) = true := decide_eq_true i0
    have ho := or_ok hl (pow_ok i0 (by omega))
    have hyes : callB s calls i = true → UpRound (fun z : Int × Int => z.2) (fun z => U32ok z.1 ∧ ∀ j, 0 ≤ j → bitI z.1 j = (decide (j < z.2) && callB s calls j)) (fun r => ∃ l, r = some l ∧ U32ok l ∧ ∀ j, 0 ≤ j → bitI l j = (decide (j < llen s.2.2.2.2.1) && callB s calls j)) i (.next (bitop .or .u32 l (shlop .u32 1 i), i + 1) : Step (Int × Int) (Option Int)) := fun hc => by
      rw [shl1 i0 (by omega)]
      refine ⟨rfl, ho, fun j j0 => ?_⟩
      simp only
      rw [bit_or hl (pow_ok i0 (by omega)), bit_pow i0, hj j j0]
      by_cases e : i = j
      · subst e; rw [hc]; simp; omega
      · have : decide (j < i + 1) = decide (j < i) := by rw [decide_eq_decide]; omega
        rw [this]; simp [e]
    have hno : callB s calls i = false → UpRound (fun z : Int × Int => z.2) (fun z => U32ok z.1 ∧ ∀ j, 0 ≤ j → bitI z.1 j = (decide (j < z.2) && callB s calls j)) (fun r => ∃ l, r = some l ∧ U32ok l ∧ ∀ j, 0 ≤ j → bitI l j = (decide (j < llen s.2.2.2.2.1) && callB s calls j)) i (.next (l, i + 1) : Step (Int × Int) (Option Int)) := fun hc => by
      refine ⟨rfl, hl, fun j j0 => ?_⟩
      simp only
      rw [hj j j0]
      by_cases e : i = j
      · subst e; rw [hc]; simp
      · have : decide (j < i + 1) = decide (j < i) := by rw [decide_eq_decide]; omega
        rw [this]
    try simp only
    rw [cnd_pos _ _ (decide_eq_true i1), elimO_eq _ _ (idx_el i0 i1), wr_i64 (i + 1) (by omega) (by omega)]
    unfold callB at hyes hno
    cases c1 : (el s.2.2.2.2.1 i).2.2.2.2 with
    | true =>
      rw [cnd_pos _ _ rfl, cnd_pos _ _ hd]
      exact hyes (by rw [c1]; rfl)
    | false =>
      rw [cnd_neg _ _ rfl, cnd_pos _ _ hd, andBit hu i0 (by omega)]
      cases c2 : bitI calls i with
      | true => rw [cnd_pos _ _ rfl, cnd_pos _ _ hd]; exact hyes (by rw [c1, c2]; rfl)
      | false => rw [cnd_neg _ _ rfl]; exact hno (by rw [c1, c2]; rfl)
  · obtain ⟨l, i⟩ := z
    obtain ⟨hl, hj⟩ := hI
    simp only at hz hl hj
    subst hz
    try simp only
    rw [cnd_neg _ _ (decide_eq_false (by omega))]
    exact ⟨l, rfl, hl, hj⟩

/-! ## the first one behind -/
theorem ctz64_spec {n : Nat} (h0 : n ≠ 0) (h : n < 2 ^ 64) : n.testBit (Lib.ctz 64 n) = true ∧ ∀ j, j < Lib.ctz 64 n → n.testBit j = false := by
  have e : Lib.ctz 64 n = Lib.ctzFrom 64 n := by simp [Lib.ctz, h0]
  obtain ⟨m, hm, _⟩ := Lib.ctzFrom_spec 64 n (by omega) h
  rw [e]
  generalize Lib.ctzFrom 64 n = k at hm
  constructor
  · rw [hm, Nat.mul_comm, Nat.testBit_mul_two_pow]
    simp
  · intro j hj
    rw [hm, Nat.mul_comm, Nat.testBit_mul_two_pow]
    have : ¬ k ≤ j := by omega
    simp [this]

theorem twice_bit {o m p j : Nat} (ho : o < 2 ^ m) (_ : p < m) (hj : p + 1 + j < 2 * m) : ((o ||| (o <<< m)) >>> (p + 1)).testBit j = o.testBit ((p + 1 + j) % m) := by
  rw [Nat.testBit_shiftRight, Nat.testBit_or, Nat.testBit_shiftLeft]
  by_cases c : p + 1 + j < m
  · rw [Nat.mod_eq_of_lt c]
    have : ¬ p + 1 + j ≥ m := by omega
    simp [this]
  · have e : (p + 1 + j) % m = p + 1 + j - m := by
      rw [Nat.mod_eq_sub_mod (by omega), Nat.mod_eq_of_lt (by omega)]
    have hz : o.testBit (p + 1 + j) = false := Nat.testBit_lt_two_pow (Nat.lt_of_lt_of_le ho (Nat.pow_le_pow_right (by decide) (by omega)))
    have : p + 1 + j ≥ m := by omega
    rw [e, hz]; simp [this]

theorem behind_nat {o m p : Nat} (ho : o < 2 ^ m) (hm : m ≤ 8) (hp : p < m) (h0 : o ≠ 0) (hpo : o.testBit p = false) :
    (o ||| (o <<< m)) >>> (p + 1) ≠ 0 ∧ (o ||| (o <<< m)) >>> (p + 1) < 2 ^ 64 ∧ Lib.ctz 64 ((o ||| (o <<< m)) >>> (p + 1)) + 1 < m ∧ o.testBit ((p + 1 + Lib.ctz 64 ((o ||| (o <<< m)) >>> (p + 1))) % m) = true ∧
      ∀ j, j < Lib.ctz 64 ((o ||| (o <<< m)) >>> (p + 1)) → o.testBit ((p + 1 + j) % m) = false := by
  have hlt : (o ||| (o <<< m)) >>> (p + 1) < 2 ^ 64 := by
    rw [Nat.shiftRight_eq_div_pow]
    refine Nat.lt_of_le_of_lt (Nat.div_le_self _ _) (Nat.or_lt_two_pow (Nat.lt_of_lt_of_le ho (Nat.pow_le_pow_right (by decide) (by omega))) ?_)
    rw [Nat.shiftLeft_eq]
    have h1 : o * 2 ^ m < 2 ^ m * 2 ^ m := Nat.mul_lt_mul_of_pos_right ho (Nat.two_pow_pos m)
    rw [← Nat.pow_add] at h1
    exact Nat.lt_of_lt_of_le h1 (Nat.pow_le_pow_right (by decide) (by omega))
  obtain ⟨b, hb⟩ := Nat.exists_testBit_of_ne_zero h0
  have hbm : b < m := by
    apply Classical.byContradiction
    intro hn
    rw [Nat.testBit_lt_two_pow (Nat.lt_of_lt_of_le ho (Nat.pow_le_pow_right (by decide) (by omega)))] at hb
    cases hb
  have hbp : b ≠ p := fun e => by rw [e, hpo] at hb; cases hb
  obtain ⟨d, hd1, hd2⟩ : ∃ d, d + 1 < m ∧ (p + 1 + d) % m = b := by
    by_cases c : p < b
    · exact ⟨b - p - 1, by omega, by rw [show p + 1 + (b - p - 1) = b by omega, Nat.mod_eq_of_lt hbm]⟩
    · exact ⟨b + m - p - 1, by omega, by rw [show p + 1 + (b + m - p - 1) = b + m by omega, Nat.add_mod_right, Nat.mod_eq_of_lt hbm]⟩
  have hdb := twice_bit ho hp (j := d) (by omega)
  rw [hd2, hb] at hdb
  have hne : (o ||| (o <<< m)) >>> (p + 1) ≠ 0 := fun e => by rw [e] at hdb; simp at hdb
  obtain ⟨c1, c2⟩ := ctz64_spec hne hlt
  have hle : Lib.ctz 64 ((o ||| (o <<< m)) >>> (p + 1)) ≤ d := by
    apply Classical.byContradiction
    intro hn
    have := c2 d (by omega)
    rw [hdb] at this; cases this
  refine ⟨hne, hlt, by omega, ?_, fun j hj => ?_⟩
  · rw [← twice_bit ho hp (by omega)]; exact c1
  · rw [← twice_bit ho hp (by omega)]; exact c2 j hj

theorem wrap_nat64 {n : Nat} (h : n < 2 ^ 64) : wr .u64 (n : Int) = n := by
  show IntKind.u64.wrap (n : Int) = n
  have : (2 : Nat) ^ 64 = 18446744073709551616 := by decide
  rw [wrap_u64]; omega

theorem seqBehind_e {s : PSSite} (hm1 : 1 ≤ llen s.2.2.2.2.1) (hm : llen s.2.2.2.2.1 ≤ 8) {o p : Int} (ho : U32ok o) (p0 : 0 ≤ p) (p1 : p < llen s.2.2.2.2.1) (hhi : ∀ j, llen s.2.2.2.2.1 ≤ j → bitI o j = false) (hpo : bitI o p = false) (h0 : o ≠ 0) :
    ∃ i, 1 ≤ i ∧ i < llen s.2.2.2.2.1 ∧ bitI o (roundP s p i) = true ∧ (∀ j, 1 ≤ j → j < i → bitI o (roundP s p j) = false) ∧ seq_behind_t (o, (p, llen s.2.2.2.2.1)) = some (roundP s p i) := by
  obtain ⟨n, rfl⟩ : ∃ n : Nat, o = n := ⟨o.toNat, by have := ho.1; omega⟩
  obtain ⟨q, rfl⟩ : ∃ n : Nat, p = n := ⟨p.toNat, by omega⟩
  obtain ⟨m, hmm⟩ : ∃ m : Nat, llen s.2.2.2.2.1 = m := ⟨(llen s.2.2.2.2.1).toNat, by omega⟩
  have bit : ∀ j : Nat, bitI (n : Int) (j : Int) = n.testBit j := fun j => by unfold bitI; simp
  have hn : n < 2 ^ m := by
    apply Nat.lt_pow_two_of_testBit
    intro i hi
    rw [← bit]; exact hhi _ (by omega)
  obtain ⟨b1, b2, b3, b4, b5⟩ := behind_nat (o := n) (m := m) (p := q) hn (by omega) (by omega) (by omega) (by rw [← bit]; exact hpo)
  have rp : ∀ j : Nat, roundP s (q : Int) ((j : Int) + 1) = (((q + 1 + j) % m : Nat) : Int) := fun j => by
    unfold roundP
    rw [hmm, Int.tmod_eq_emod_of_nonneg (by omega), show (q : Int) + ((j : Int) + 1) = ((q + 1 + j : Nat) : Int) by omega]
    rfl
  generalize hd : Lib.ctz 64 ((n ||| (n <<< m)) >>> (q + 1)) = d at b3 b4 b5
  refine ⟨(d : Int) + 1, by omega, by omega, by rw [rp, bit]; exact b4, fun j j0 j1 => ?_, ?_⟩
  · have := rp (j - 1).toNat
    rw [show (((j - 1).toNat : Nat) : Int) + 1 = j by omega] at this
    rw [this, bit]
    exact b5 _ (by omega)
  · unfold seq_behind_t
    rw [rp]
    simp only [hmm]
    have h28 : (2 : Nat) ^ m ≤ 2 ^ 8 := Nat.pow_le_pow_right (by decide) (by omega)
    have hn8 : n < 256 := by omega
    have hw : wr .u64 (n : Int) = n := wrap_nat64 (by omega)
    have hsl : shlop .u64 (n : Int) (m : Int) = ((n <<< m : Nat) : Int) := by
      unfold shlop
      rw [show min ((m : Int)).toNat IntKind.u64.bits = m by simp only [IntKind.bits]; omega, Nat.shiftLeft_eq]
      have : ((n : Int) * 2 ^ m) = ((n * 2 ^ m : Nat) : Int) := by simp
      rw [this]
      refine wrap_nat64 ?_
      have : n * 2 ^ m ≤ 256 * 2 ^ 8 := Nat.mul_le_mul (by omega) h28
      omega
    have hnl : n <<< m < 2 ^ 64 := by
      rw [Nat.shiftLeft_eq]
      have : n * 2 ^ m ≤ 256 * 2 ^ 8 := Nat.mul_le_mul (by omega) h28
      omega
    rw [hw, hsl]
    have hor : bitop .or .u64 (n : Int) ((n <<< m : Nat) : Int) = ((n ||| (n <<< m) : Nat) : Int) := or_u64 (by omega) hnl
    rw [hor]
    rw [wr_i64 ((q : Int) + 1) (by omega) (by omega)]
    have hsr : shrop .u64 ((n ||| (n <<< m) : Nat) : Int) ((q : Int) + 1) = (((n ||| (n <<< m)) >>> (q + 1) : Nat) : Int) := by
      unfold shrop
      rw [show min ((q : Int) + 1).toNat IntKind.u64.bits = q + 1 by simp only [IntKind.bits]; omega]
      have hp : (0 : Int) < 2 ^ (q + 1) := Int.pow_pos (by decide)
      rw [Int.fdiv_eq_ediv_of_nonneg _ (Int.le_of_lt hp), Nat.shiftRight_eq_div_pow]
      simp
    rw [hsr]
    have htz : bits_TrailingZeros64 (((n ||| (n <<< m)) >>> (q + 1) : Nat) : Int) = (d : Int) := by
      unfold bits_TrailingZeros64
      rw [if_neg (by omega), Int.toNat_natCast, hd]
    rw [cnd_pos _ _ (decide_eq_true (by omega)), cnd_pos _ _ (decide_eq_true (by omega)), letK_app, htz, cnd_pos _ _ (by simp; omega), wr_i64 ((q : Int) + 1 + d) (by omega) (by omega)]
    unfold irem
    rw [Int.tmod_eq_emod_of_nonneg (by omega), show (q : Int) + 1 + (d : Int) = ((q + 1 + d : Nat) : Int) by omega]
    rfl

/-! ## the program's sequencer -/
structure SeqOK (s : PSSite) (q : PSSeq) : Prop where
  p0 : 0 ≤ q.1
  p1 : q.1 < llen s.2.2.2.2.1
  s0 : 0 ≤ q.2
  s1 : q.2 ≤ 1048576

theorem next_e {s : PSSite} {q : PSSeq} {now : PSSafe} {calls gaps : Int} (hs : SFits s) (hS : SiteOK s) (hc : site_Check_t s = some 0) (hq : SeqOK s q) (hw : llen now.1 = llen s.2.1) (hu : U32ok calls) (hg : U32ok gaps) :
    ∃ q', NextIs s q (fullB s now q.1) calls gaps q' ∧ 0 ≤ q'.1 ∧ q'.1 < llen s.2.2.2.2.1 ∧ 0 ≤ q'.2 ∧ q'.2 ≤ 1048576 ∧ seq_Next_t (s, (q, (now, (calls, gaps)))) = some (q', (asksV s q'.1, 0)) := by
  have h := sok hs hS
  have hm1 := hS.shape.p1
  have hm := hS.shape.p2
  obtain ⟨p, t⟩ := q
  obtain ⟨p0, p1, s0, s1⟩ := hq
  simp only at p0 p1 s0 s1
  have hasks : ∀ k, 0 ≤ k → k < llen s.2.2.2.2.1 → turn_Asks_t (s, k) = some (asksV s k, 0) := fun k k0 k1 => by
    rw [Asks_e (e := 0) hs (fun _ => h) hc]
    unfold asksR
    rw [if_neg (by simp), if_neg (by simp; omega)]
  have hfull : turn_Full_t (s, (now, p)) = some (fullB s now p, 0) := by
    rw [Full_e (e := 0) hs (fun _ => h) hc]
    unfold fullR
    rw [if_neg (by simp), if_neg (by simpa using hw), if_neg (by simp; omega)]
  have hphp := (hS.phased.1 p _ (idx_el p0 p1))
  have hmin := hphp.min
  have hmax := hphp.max
  unfold seq_Next_t
  simp only
  rw [elimO_eq _ _ hc, cnd_neg _ _ (by rfl), cnd_neg _ _ (decide_eq_false (by omega)), cnd_neg _ _ (decide_eq_false (by omega)), cnd_neg _ _ (decide_eq_false (by omega)), cnd_neg _ _ (decide_eq_false (by omega)), cnd_neg _ _ (by simpa using hw), elimO_eq _ _ hfull]
  cases hf : fullB s now p with
  | false =>
    rw [cnd_pos _ _ (by rfl), elimO_eq _ _ (hasks p p0 p1)]
    exact ⟨(p, 0), ⟨fun _ => rfl, fun hh => (by cases hh), fun hh => (by cases hh)⟩, p0, p1, by simp, by simp, rfl⟩
  | true =>
    obtain ⟨l, hl, lu, lb⟩ := called_e (s := s) hm hu
    have hd : decide (0 ≤ p) = true := decide_eq_true p0
    rw [cnd_neg _ _ (by rfl), elimO_eq _ _ (idx_el p0 p1), elimO_eq _ _ hl, cnd_pos _ _ hd, cnd_pos _ _ hd, wr_i64 (t + 1) (by omega) (by omega), gmin_eq, andBit hg p0 (by omega), shl1 p0 (by omega)]
    have hou := andNot_ok lu (pow_ok p0 (by omega))
    have hob : ∀ j, 0 ≤ j → bitI (bitop .andNot .u32 l ((2 ^ p.toNat : Nat) : Int)) j = (decide (j < llen s.2.2.2.2.1) && callB s calls j && !decide (p = j)) := fun j j0 => by
      rw [bit_andNot lu (pow_ok p0 (by omega)), lb j j0, bit_pow p0]
    generalize bitop .andNot .u32 l ((2 ^ p.toNat : Nat) : Int) = o at hou hob ⊢
    have ocall : ∀ i, 1 ≤ i → i < llen s.2.2.2.2.1 → bitI o (roundP s p i) = callB s calls (roundP s p i) := fun i i0 i1 => by
      obtain ⟨r0, r1⟩ := roundP_in p0 p1 (i := i) (by omega) (by omega)
      have hne := roundP_ne p0 p1 i0 i1
      rw [hob _ r0, decide_eq_true r1, decide_eq_false (fun e => hne e.symm)]
      simp
    have oz : o = 0 ↔ ∀ i, 1 ≤ i → i < llen s.2.2.2.2.1 → callB s calls (roundP s p i) = false := by
      constructor
      · intro hz i i0 i1
        rw [← ocall i i0 i1, hz, bit_zero]
      · intro hz
        refine bit_ext hou ⟨by simp, by simp⟩ fun j j0 j1 => ?_
        rw [bit_zero, hob j j0]
        by_cases c : j < llen s.2.2.2.2.1
        · by_cases e : p = j
          · simp [e]
          · obtain ⟨i, i0, i1, hi, _⟩ := roundP_ex p0 p1 j0 c (fun hh => e hh.symm)
            have := hz i i0 i1
            rw [hi] at this
            simp [this]
        · simp [c]
    by_cases c : (min (t + 1) 1048576 < (el s.2.2.2.2.1 p).2.1 ∨ (bitI gaps p = false ∧ min (t + 1) 1048576 < (el s.2.2.2.2.1 p).2.2.1) ∨ ∀ i, 1 ≤ i → i < llen s.2.2.2.2.1 → callB s calls (roundP s p i) = false)
    · refine ⟨(p, min (t + 1) 1048576), ⟨fun hh => (by cases hh), fun _ _ => rfl, fun _ hn => absurd c hn⟩, p0, p1, by simp only; omega, by simp only; omega, ?_⟩
      rw [cnd_neg _ _ ?_, elimO_eq _ _ (hasks p p0 p1)]
      rcases c with c | c | c
      · have : decide ((el s.2.2.2.2.1 p).2.1 ≤ min (t + 1) 1048576) = false := decide_eq_false (by omega)
        rw [this]; rfl
      · have : decide ((el s.2.2.2.2.1 p).2.2.1 ≤ min (t + 1) 1048576) = false := decide_eq_false (by omega)
        rw [this, c.1]; simp
      · rw [oz.2 c]; simp
    · have hc2 := c
      simp only [not_or] at c
      obtain ⟨c1, c2, c3⟩ := c
      have hne : o ≠ 0 := fun e => c3 (oz.1 e)
      obtain ⟨i, i0, i1, i2, i3, i4⟩ := seqBehind_e hm1 hm hou p0 p1 (fun j hj => by rw [hob j (by omega), decide_eq_false (by omega)]; rfl) (by rw [hob p p0]; simp) hne
      obtain ⟨r0, r1⟩ := roundP_in p0 p1 (i := i) (by omega) (by omega)
      refine ⟨(roundP s p i, 0), ⟨fun hh => (by cases hh), fun _ hh => absurd hh hc2, fun _ _ => ⟨i, i0, i1, by rw [← ocall i i0 i1]; exact i2, fun j j0 j1 => by rw [← ocall j j0 (by omega)]; exact i3 j j0 j1, rfl⟩⟩, r0, r1, by simp, by simp, ?_⟩
      rw [cnd_pos _ _ ?_, elimO_eq _ _ i4, elimO_eq _ _ (hasks _ r0 r1)]
      have d1 : decide ((el s.2.2.2.2.1 p).2.1 ≤ min (t + 1) 1048576) = true := decide_eq_true (by omega)
      rw [d1]
      have d2 : (!(o == 0)) = true := by simp [hne]
      rw [d2]
      cases cg : bitI gaps p with
      | true => rfl
      | false =>
        have : decide ((el s.2.2.2.2.1 p).2.2.1 ≤ min (t + 1) 1048576) = true := decide_eq_true (by
          apply Classical.byContradiction
          intro hn
          exact c2 ⟨cg, by omega⟩)
        rw [this]; rfl

/-- what the sequencer answers otherwise -/
def noR (e : Int) (s : PSSite) (q : PSSeq) : Int := if e ≠ 0 then e else if q.1 < 0 ∨ llen s.2.2.2.2.1 ≤ q.1 ∨ q.2 < 0 ∨ 1048576 < q.2 then 2 else 8
theorem no_ne (e : Int) (s : PSSite) (q : PSSeq) : noR e s q ≠ 0 := by
  unfold noR
  split
  · assumption
  · split <;> decide
theorem next_no {s : PSSite} {q : PSSeq} {now : PSSafe} {calls gaps e : Int} (hc : site_Check_t s = some e) (hn : ¬ (e = 0 ∧ SeqOK s q ∧ llen now.1 = llen s.2.1)) :
    seq_Next_t (s, (q, (now, (calls, gaps)))) = some ((0, 0), ([], noR e s q)) := by
  unfold seq_Next_t noR
  simp only
  rw [elimO_eq _ _ hc]
  by_cases h0 : e = 0
  · rw [cnd_neg _ _ (by simp [h0]), if_neg (by simpa using h0)]
    by_cases c1 : q.1 < 0
    · rw [cnd_pos _ _ (decide_eq_true c1), if_pos (.inl c1)]
    rw [cnd_neg _ _ (decide_eq_false c1)]
    by_cases c2 : llen s.2.2.2.2.1 ≤ q.1
    · rw [cnd_pos _ _ (decide_eq_true c2), if_pos (.inr (.inl c2))]
    rw [cnd_neg _ _ (decide_eq_false c2)]
    by_cases c3 : q.2 < 0
    · rw [cnd_pos _ _ (decide_eq_true c3), if_pos (.inr (.inr (.inl c3)))]
    rw [cnd_neg _ _ (decide_eq_false c3)]
    by_cases c4 : 1048576 < q.2
    · rw [cnd_pos _ _ (decide_eq_true c4), if_pos (.inr (.inr (.inr c4)))]
    rw [cnd_neg _ _ (decide_eq_false c4), if_neg (by omega)]
    by_cases c5 : llen now.1 = llen s.2.1
    · exact absurd ⟨h0, ⟨by omega, by omega, by omega, by omega⟩, c5⟩ hn
    · rw [cnd_pos _ _ (by simpa using c5)]
  · rw [cnd_pos _ _ (by simp [h0]), if_pos h0]

/-! ## the bound -/
def costTo (s : PSSite) : Nat → Int
  | 0 => 0
  | n + 1 => costTo s n + ((el s.2.2.2.2.1 (n : Int)).2.2.1 + turnV s + 2)
def boundV (s : PSSite) : Int := turnV s + costTo s (llen s.2.2.2.2.1).toNat

theorem cost_in {s : PSSite} (h : SOK s) (hS : SiteOK s) : ∀ n : Nat, (n : Int) ≤ llen s.2.2.2.2.1 → 0 ≤ costTo s n ∧ costTo s n ≤ 4194304 * (n : Int)
  | 0, _ => by simp [costTo]
  | n + 1, hn => by
    obtain ⟨a1, a2⟩ := cost_in h hS n (by omega)
    have ht := turn_in h
    have hm := (hS.phased.1 (n : Int) _ (idx_el (by omega) (by omega))).max
    unfold turnV at *
    rw [costTo]
    unfold turnV
    omega

theorem Bound_e {s : PSSite} {e : Int} (hok : e = 0 → SiteOK s) (hs : SFits s) (hc : site_Check_t s = some e) : seq_Bound_t s = some (if e ≠ 0 then (0, e) else (boundV s, 0)) := by
  unfold seq_Bound_t
  rw [elimO_eq _ _ (Worst_e (fun h => sok hs (hok h)) hc)]
  by_cases h0 : e = 0
  · subst h0
    have hS := hok rfl
    have h := sok hs hS
    have hm := hS.shape.p2
    have hn := llen_nonneg s.2.2.2.2.1
    have ht := turn_in h
    have htv : turnV s = leastV s + longV s + 2 := rfl
    rw [if_neg (by simp), if_neg (by simp), cnd_neg _ _ (by rfl)]
    refine iter_up (fun z : Int × Int => z.2) (llen s.2.2.2.2.1) (fun z => z.1 = turnV s + costTo s z.2.toNat) (fun r => r = some (boundV s, 0)) (by omega) (by simp) hn (by simp [costTo]) (fun z hI i0 i1 => ?_) (fun z hI hz => ?_)
    · obtain ⟨a, i⟩ := z
      simp only at hI i0 i1
      have hmx := (hS.phased.1 i _ (idx_el i0 i1)).max
      have hci := cost_in h hS i.toNat (by omega)
      try simp only
      rw [cnd_pos _ _ (decide_eq_true i1), elimO_eq _ _ (idx_el i0 i1), hI, wr_i64 (i + 1) (by omega) (by omega), wr_i64 ((el s.2.2.2.2.1 i).2.2.1 + turnV s) (by omega) (by omega), wr_i64 ((el s.2.2.2.2.1 i).2.2.1 + turnV s + 2) (by omega) (by omega), wr_i64 _ (by omega) (by omega)]
      refine ⟨rfl, ?_⟩
      simp only
      rw [show (i + 1).toNat = i.toNat + 1 by omega, costTo, Int.toNat_of_nonneg i0]
      omega
    · obtain ⟨a, i⟩ := z
      simp only at hI hz
      subst hz
      try simp only
      rw [cnd_neg _ _ (decide_eq_false (by omega)), hI]
      exact rfl
  · rw [if_pos h0, if_pos h0, cnd_pos _ _ (by simp [h0])]

end Go.Proofs.YtlddjfgbepbmdaaDoor
