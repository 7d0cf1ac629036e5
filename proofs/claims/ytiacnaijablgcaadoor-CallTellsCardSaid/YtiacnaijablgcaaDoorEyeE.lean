/- Part of a proof: plain readings of Go functions, their contracts, or plain facts of them. -/
import Derived.Test.YtiacnaijablgcaaDoorEyeG
import Derived.Test.YtiacnaijablgcaaDoorEyeR
import Derived.Test.YtiacnaijablgcaaDoorDen3
namespace Go.Proofs.YtiacnaijablgcaaDoor
open Go.Den

/-! # Detectors -/
structure MayOK (x : PSLooked) : Prop where
  same : 0 ≤ x.2.1 ∧ x.2.1 ≤ 1048576
  well : 0 ≤ x.2.2.2.2 ∧ x.2.2.2.2 ≤ 1048576
  sick : x.2.2.2.1 = true ∨ x.2.2.2.2 = 0

theorem may_iff (x : PSLooked) : eye_may x = true ↔ MayOK x := by
  unfold eye_may
  rw [gmin_eq, gmax_eq]
  simp only [Bool.and_eq_true, Bool.or_eq_true, decide_eq_true_eq, beq_iff_eq]
  exact ⟨fun h => ⟨by omega, by omega, h.2⟩, fun h => ⟨by have := h.same; have := h.well; omega, h.sick⟩⟩

theorem refMay13_eq (x : PSLooked) : ref13_May x = eye_may x := by
  apply Bool.eq_iff_iff.2
  rw [may_iff]
  unfold ref13_May
  simp only [Bool.and_eq_true, Bool.or_eq_true, decide_eq_true_eq, beq_iff_eq]
  exact ⟨fun h => ⟨by omega, by omega, h.2⟩, fun h => ⟨by have := h.same; have := h.well; omega, h.sick⟩⟩

def newT (x : PSLooked) (up : Bool) : Int := if up = x.1 then shlop .u64 x.2.2.1 1 else bitop .or .u64 (shlop .u64 x.2.2.1 1) 1
def newS (x : PSLooked) (up : Bool) : Int := if up = x.1 then min (x.2.1 + 1) 1048576 else 1
def illB (e : PSEye) (up : Bool) (same t : Int) : Bool := (up && decide (e.2.1 ≤ same)) || (!up && decide (e.2.2.1 ≤ same)) || decide (e.2.2.2 < cnt64 t)
def stepV (s : PSSite) (e : PSEye) (x : PSLooked) (up : Bool) : PSLooked :=
  (up, newS x up, newT x up,
    if illB e up (newS x up) (newT x up) = true then (true, 0) else
    if x.2.2.2.1 = true then (if s.2.2.2.2.2.2.2.2.1 ≤ x.2.2.2.2 + 1 then (false, 0) else (true, x.2.2.2.2 + 1)) else (false, x.2.2.2.2))

theorem step_v {s : PSSite} {i : Int} {x : PSLooked} {up : Bool} {e : PSEye} (he : idx s.2.2.2.2.2.1 i = some e) (hm : MayOK x) : eye_step_t (s, (i, (x, up))) = some (stepV s e x up) := by
  obtain ⟨u, sa, t, b, w⟩ := x
  have h1 := hm.same
  have h2 := hm.well
  simp only at h1 h2
  unfold eye_step_t stepV illB newS newT
  simp only [he, elimO_some, letK]
  rw [wr_i64 (sa + 1) (by omega) (by omega), wr_i64 (w + 1) (by omega) (by omega), wr_i64 (0 + 1) (by decide) (by decide), gmin_eq, gmin_eq]
  have ho : ∀ z, bits_OnesCount64 z = cnt64 z := fun z => rfl
  simp only [ho, show min (0 + 1 : Int) 1048576 = 1 by decide]
  by_cases hu : up = u
  · subst hu
    simp only [beq_self_eq_true, Bool.not_true, cnd_false, if_true]
    generalize min (sa + 1) 1048576 = n
    generalize shlop .u64 t 1 = m
    cases up with
    | true =>
      by_cases c1 : e.2.1 ≤ n
      · simp [c1, cnd]
      · by_cases c2 : e.2.2.2 < cnt64 m
        · simp [c1, c2, cnd]
        · cases b with
          | false => simp [c1, c2, cnd]
          | true => by_cases c3 : s.2.2.2.2.2.2.2.2.1 ≤ w + 1 <;> simp [c1, c2, c3, cnd]
    | false =>
      by_cases c1 : e.2.2.1 ≤ n
      · simp [c1, cnd]
      · by_cases c2 : e.2.2.2 < cnt64 m
        · simp [c1, c2, cnd]
        · cases b with
          | false => simp [c1, c2, cnd]
          | true => by_cases c3 : s.2.2.2.2.2.2.2.2.1 ≤ w + 1 <;> simp [c1, c2, c3, cnd]
  · have hb : (up == u) = false := beq_false_of_ne hu
    simp only [hb, Bool.not_false, cnd_true, hu, if_false]
    generalize bitop .or .u64 (shlop .u64 t 1) 1 = m
    cases up with
    | true =>
      by_cases c1 : e.2.1 ≤ 1
      · simp [c1, cnd]
      · by_cases c2 : e.2.2.2 < cnt64 m
        · simp [c1, c2, cnd]
        · cases b with
          | false => simp [c1, c2, cnd]
          | true => by_cases c3 : s.2.2.2.2.2.2.2.2.1 ≤ w + 1 <;> simp [c1, c2, c3, cnd]
    | false =>
      by_cases c1 : e.2.2.1 ≤ 1
      · simp [c1, cnd]
      · by_cases c2 : e.2.2.2 < cnt64 m
        · simp [c1, c2, cnd]
        · cases b with
          | false => simp [c1, c2, cnd]
          | true => by_cases c3 : s.2.2.2.2.2.2.2.2.1 ≤ w + 1 <;> simp [c1, c2, c3, cnd]

theorem shl_wr (x : Int) : shlop .u64 x 1 = wr .u64 (x * 2) := rfl

theorem shl_nat {n : Nat} (hn : n < 2 ^ 64) : shlop .u64 (n : Int) 1 = ((2 * n % 2 ^ 64 : Nat) : Int) ∧ 2 * n % 2 ^ 64 < 2 ^ 64 ∧ 2 * n % 2 ^ 64 % 2 = 0 := by
  refine ⟨shl1_u64 hn, Nat.mod_lt _ (by decide), ?_⟩
  rw [two64n]; omega

theorem shl_or {n : Nat} (hn : n < 2 ^ 64) : bitop .or .u64 (shlop .u64 (n : Int) 1) 1 = ((2 * n % 2 ^ 64 + 1 : Nat) : Int) ∧ 2 * n % 2 ^ 64 + 1 < 2 ^ 64 := by
  obtain ⟨h1, h2, h3⟩ := shl_nat hn
  have h4 : bitop .or .u64 ((2 * n % 2 ^ 64 : Nat) : Int) 1 = ((2 * n % 2 ^ 64 ||| 1 : Nat) : Int) := or_u64 (y := 1) h2 (by decide)
  rw [h1, h4, or_one h3]
  refine ⟨rfl, ?_⟩
  rw [two64n] at *; omega

theorem newT_nat {x : PSLooked} {n : Nat} (h : x.2.2.1 = n) (hn : n < 2 ^ 64) (up : Bool) : newT x up = ((2 * n % 2 ^ 64 + (if up = x.1 then 0 else 1) : Nat) : Int) ∧ 2 * n % 2 ^ 64 + (if up = x.1 then 0 else 1) < 2 ^ 64 := by
  unfold newT
  rw [h]
  split
  · exact ⟨(shl_nat hn).1, (shl_nat hn).2.1⟩
  · exact shl_or hn

theorem newT_ok {x : PSLooked} (h : U64ok x.2.2.1) (up : Bool) : U64ok (newT x up) := by
  obtain ⟨n, e, hn⟩ := u64_nat h
  obtain ⟨h1, h2⟩ := newT_nat e hn up
  rw [h1]; exact u64_of h2

theorem refCount13 {t : Int} (h : U64ok t) : ref13_count_t t = some (cnt64 t) := by
  obtain ⟨n, rfl, hn⟩ := u64_nat h
  rw [two64n] at hn
  have e1 : wr .u32 (irem (n : Int) 4294967296) = ((n % 4294967296 : Nat) : Int) := by
    show IntKind.u32.wrap (Int.tmod _ _) = _
    rw [wrap_u32, Int.tmod_eq_emod_of_nonneg (by omega)]; omega
  have e2 : wr .u32 (quoop .u64 (n : Int) 4294967296) = ((n / 4294967296 : Nat) : Int) := by
    show IntKind.u32.wrap (IntKind.u64.wrap (Int.tdiv _ _)) = _
    rw [wrap_u32, wrap_u64, Int.tdiv_eq_ediv_of_nonneg (by omega)]; omega
  have u1 : U32ok ((n % 4294967296 : Nat) : Int) := ⟨by omega, by omega⟩
  have u2 : U32ok ((n / 4294967296 : Nat) : Int) := ⟨by omega, by omega⟩
  unfold ref13_count_t
  rw [cnd_pos _ _ (by rfl), e1, elimO_eq _ _ (refCount_s u1), cnd_pos _ _ (by rfl), e2, elimO_eq _ _ (refCount_s u2)]
  have c := cnt_halves (n := n) (by rw [two64n]; exact hn)
  have l1 := cntN_le (n % 4294967296) 0 32
  have l2 := cntN_le (n / 4294967296) 0 32
  unfold cnt cnt64
  simp only [Int.toNat_natCast]
  rw [wr_i64 _ (by omega) (by omega), ← c]
  simp

theorem refStep13 {s : PSSite} {i : Int} {x : PSLooked} {up : Bool} {e : PSEye} (he : idx s.2.2.2.2.2.1 i = some e) (hm : MayOK x) (ht : U64ok x.2.2.1) : ref13_step_t (s, (i, (x, up))) = some (stepV s e x up) := by
  obtain ⟨u, sa, t, b, w⟩ := x
  have h1 := hm.same
  have h2 := hm.well
  simp only at h1 h2 ht
  obtain ⟨n, rfl, hn⟩ := u64_nat ht
  unfold ref13_step_t stepV illB newS newT
  simp only [he, elimO_some]
  rw [wr_i64 (sa + 1) (by omega) (by omega), wr_i64 (w + 1) (by omega) (by omega), gmin_eq, ← shl_wr]
  obtain ⟨g1, g2, g3⟩ := shl_nat hn
  obtain ⟨g4, g5⟩ := shl_or hn
  have g6 : wr .u64 (shlop .u64 (n : Int) 1 + 1) = bitop .or .u64 (shlop .u64 (n : Int) 1) 1 := by
    rw [g4, g1]; exact wr_u64n (n := 2 * n % 2 ^ 64 + 1) g5
  rw [g6, refCount13 (by rw [g4]; exact u64_of g5), refCount13 (by rw [g1]; exact u64_of g2)]
  simp only [elimO_some]
  by_cases hu : up = u
  · subst hu
    simp only [beq_self_eq_true, Bool.not_true, cnd_false, if_true]
    generalize min (sa + 1) 1048576 = k
    generalize shlop .u64 (n : Int) 1 = m
    cases up with
    | true =>
      by_cases c1 : e.2.1 ≤ k
      · simp [c1, cnd]
      · by_cases c2 : e.2.2.2 < cnt64 m
        · simp [c1, c2, cnd]
        · cases b with
          | false => simp [c1, c2, cnd]
          | true => by_cases c3 : s.2.2.2.2.2.2.2.2.1 ≤ w + 1 <;> simp [c1, c2, c3, cnd]
    | false =>
      by_cases c1 : e.2.2.1 ≤ k
      · simp [c1, cnd]
      · by_cases c2 : e.2.2.2 < cnt64 m
        · simp [c1, c2, cnd]
        · cases b with
          | false => simp [c1, c2, cnd]
          | true => by_cases c3 : s.2.2.2.2.2.2.2.2.1 ≤ w + 1 <;> simp [c1, c2, c3, cnd]
  · have hb : (up == u) = false := beq_false_of_ne hu
    simp only [hb, Bool.not_false, cnd_true, hu, if_false]
    generalize bitop .or .u64 (shlop .u64 (n : Int) 1) 1 = m
    cases up with
    | true =>
      by_cases c1 : e.2.1 ≤ 1
      · simp [c1, cnd]
      · by_cases c2 : e.2.2.2 < cnt64 m
        · simp [c1, c2, cnd]
        · cases b with
          | false => simp [c1, c2, cnd]
          | true => by_cases c3 : s.2.2.2.2.2.2.2.2.1 ≤ w + 1 <;> simp [c1, c2, c3, cnd]
    | false =>
      by_cases c1 : e.2.2.1 ≤ 1
      · simp [c1, cnd]
      · by_cases c2 : e.2.2.2 < cnt64 m
        · simp [c1, c2, cnd]
        · cases b with
          | false => simp [c1, c2, cnd]
          | true => by_cases c3 : s.2.2.2.2.2.2.2.2.1 ≤ w + 1 <;> simp [c1, c2, c3, cnd]

/-- what a step leaves may be -/
theorem stepV_ok {s : PSSite} {e : PSEye} {x : PSLooked} (up : Bool) (hm : MayOK x) (hh : s.2.2.2.2.2.2.2.2.1 ≤ 1048576) : MayOK (stepV s e x up) ∧ (stepV s e x up).1 = up ∧ 1 ≤ (stepV s e x up).2.1 := by
  have h1 := hm.same
  have h2 := hm.well
  have h3 := hm.sick
  have hs : 1 ≤ newS x up ∧ newS x up ≤ 1048576 := by unfold newS; split <;> omega
  unfold stepV
  refine ⟨⟨by simp only; omega, ?_, ?_⟩, rfl, hs.1⟩
  · simp only
    repeat' split
    all_goals simp only; omega
  · simp only
    split
    · exact .inl rfl
    · split
      · split
        · exact .inr rfl
        · exact .inl rfl
      · rename_i h
        right
        rcases h3 with h3 | h3
        · exact absurd h3 h
        · exact h3

theorem zero_ok : MayOK (false, (0, (0, (false, 0)))) := ⟨by simp, by simp, .inr rfl⟩

def nextE (e : Int) (s : PSSite) (i : Int) (x : PSLooked) (up : Bool) : PSLooked × Int :=
  if e ≠ 0 then ((false, (0, (0, (false, 0)))), e) else if i < 0 ∨ llen s.2.2.2.2.2.1 ≤ i then ((false, (0, (0, (false, 0)))), 2) else
  if eye_may x = true then (stepV s (el s.2.2.2.2.2.1 i) x up, 0) else ((false, (0, (0, (false, 0)))), 8)

theorem next_e {s : PSSite} {i e : Int} {x : PSLooked} {up : Bool} (h : site_Check_t s = some e) : eye_Next_t (s, (i, (x, up))) = some (nextE e s i x up) := by
  unfold eye_Next_t nextE
  rw [elimO_eq _ _ h]
  by_cases h0 : e = 0
  · subst h0
    rw [cnd_neg _ _ (by rfl), if_neg (by simp)]
    by_cases h1 : i < 0 ∨ llen s.2.2.2.2.2.1 ≤ i
    · rw [if_pos h1, cnd_pos _ _ (by simpa using h1)]
    · rw [if_neg h1, cnd_neg _ _ (by simpa using h1), letK_app]
      by_cases h2 : eye_may x = true
      · rw [if_pos h2, cnd_neg _ _ (by simp [h2]), elimO_eq _ _ (step_v (idx_el (by omega) (by omega)) ((may_iff x).1 h2))]
      · rw [if_neg h2, cnd_pos _ _ (by simp [h2])]
  · rw [if_pos h0, cnd_pos _ _ (by simp [h0])]

theorem refNext13 {s : PSSite} {i e : Int} {x : PSLooked} {up : Bool} (h : ref05_Check_t s = some e) (ht : U64ok x.2.2.1) : ref13_Next_t (s, (i, (x, up))) = some (nextE e s i x up) := by
  unfold ref13_Next_t nextE
  rw [elimO_eq _ _ h]
  by_cases h0 : e = 0
  · subst h0
    rw [cnd_neg _ _ (by rfl), if_neg (by simp)]
    by_cases h1 : i < 0 ∨ llen s.2.2.2.2.2.1 ≤ i
    · rw [if_pos h1, cnd_pos _ _ (by simpa using h1)]
    · rw [if_neg h1, cnd_neg _ _ (by simpa using h1), letK_app]
      simp only [refMay13_eq]
      by_cases h2 : eye_may x = true
      · rw [if_pos h2, cnd_neg _ _ (by simp [h2]), elimO_eq _ _ (refStep13 (idx_el (by omega) (by omega)) ((may_iff x).1 h2) ht)]
      · rw [if_neg h2, cnd_pos _ _ (by simp [h2])]
  · rw [if_pos h0, cnd_pos _ _ (by simp [h0])]

theorem alive13 : law13_alive_t () = some true := by kernel_rfl

theorem eyeNames_law (x : Unit) (_ : FitsAll [] x) : law13_EyeNames_t x = some true := by cases x; kernel_rfl

structure XFits (x : PSLooked) : Prop where
  same : -9223372036854775808 ≤ x.2.1 ∧ x.2.1 ≤ 9223372036854775807
  turns : U64ok x.2.2.1
  well : -9223372036854775808 ≤ x.2.2.2.2 ∧ x.2.2.2.2 ≤ 9223372036854775807
theorem xfits {x : PSLooked} (h : Fits SLooked x) : XFits x := ⟨h.2.1, h.2.2.1, h.2.2.2.2⟩

theorem eyeStays_law (x : PSSite × Int × PSLooked × Bool × Bool) (hf : FitsAll [SSite, I64, SLooked, Bo, Bo] x) : law13_EyeStays_t x = some true := by
  obtain ⟨s, i, x, up, again⟩ := x
  have hs : SFits s := sfits hf.1
  have hx : XFits x := xfits hf.2.2.1
  unfold law13_EyeStays_t
  obtain ⟨g, hg⟩ := great_s s hs
  rw [elimO_eq _ _ alive13, cnd_neg _ _ (by rfl), elimO_eq _ _ hg, cnd_if]
  split
  · rfl
  obtain ⟨e, h2, h3⟩ := check_s hs
  rw [elimO_eq _ _ (next_e h2)]
  unfold nextE
  by_cases h0 : e = 0
  · subst h0
    have hok := check_ok h3 rfl
    have hheal := hok.timed.heal
    rw [if_neg (by simp)]
    by_cases h1 : i < 0 ∨ llen s.2.2.2.2.2.1 ≤ i
    · rw [if_pos h1, cnd_pos _ _ (by rfl)]; rfl
    · rw [if_neg h1]
      by_cases c : eye_may x = true
      · rw [if_pos c, cnd_neg _ _ (by rfl)]
        obtain ⟨k1, k2, k3⟩ := stepV_ok (s := s) (e := el s.2.2.2.2.2.1 i) up ((may_iff x).1 c) hheal.2
        have kt : ∃ n : Nat, (stepV s (el s.2.2.2.2.2.1 i) x up).2.2.1 = n ∧ n < 2 ^ 64 := u64_nat (newT_ok hx.turns up)
        generalize stepV s (el s.2.2.2.2.2.1 i) x up = a at k1 k2 k3 kt
        rw [elimO_eq _ _ (next_e h2)]
        unfold nextE
        rw [if_neg (by simp), if_neg h1, if_pos ((may_iff a).2 k1)]
        have m1 := k1.same
        have m2 := k1.well
        have m3 := k1.sick
        obtain ⟨n, e1, e2⟩ := kt
        have t1 : shrop .u64 (newT a again) 1 = bitop .and .u64 a.2.2.1 9223372036854775807 := by
          obtain ⟨q1, q2⟩ := newT_nat e1 e2 again
          have q3 : shrop .u64 (newT a again) 1 = (((2 * n % 2 ^ 64 + (if again = a.1 then 0 else 1)) >>> 1 : Nat) : Int) := by rw [q1]; exact shr_u64 _ 1 (by decide)
          have q4 : bitop .and .u64 (n : Int) 9223372036854775807 = ((n &&& 9223372036854775807 : Nat) : Int) := and_u64 e2 (by decide)
          rw [q3, e1, q4]
          have q5 : n &&& 9223372036854775807 = n % 9223372036854775808 := by
            rw [show (9223372036854775807 : Nat) = 2 ^ 63 - 1 from rfl, Nat.and_two_pow_sub_one_eq_mod]
          rw [q5, Nat.shiftRight_eq_div_pow]
          rw [two64n] at *
          split <;> omega
        have t2 : (stepV s (el s.2.2.2.2.2.1 i) a again).2.2.1 = newT a again := rfl
        have t3 : (stepV s (el s.2.2.2.2.2.1 i) a again).1 = again := rfl
        simp only [t2, t3, t1, k2, beq_self_eq_true, Bool.and_self, Bool.true_and, Bool.and_true]
        congr 1
        simp only [Bool.and_eq_true, decide_eq_true_eq, Bool.or_eq_true, beq_iff_eq]
        exact ⟨⟨⟨⟨k3, m1.2⟩, m2.1⟩, m2.2⟩, m3⟩
      · rw [if_neg c, cnd_pos _ _ (by rfl)]; rfl
  · rw [if_pos h0, cnd_pos _ _ (by simp [h0])]; rfl

end Go.Proofs.YtiacnaijablgcaaDoor
