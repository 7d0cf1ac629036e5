/- Part 3 of a plain reading of Go code: an evaluator of code as functions of typed data, and that it tells what the machine does. -/
import Derived.Test.YtiacnaijablgcaaDoorDen2
namespace Go.Den
open Go.RowKit

/-! # Long words, plainly -/
def U64ok (x : Int) : Prop := 0 ≤ x ∧ x ≤ 18446744073709551615

theorem wrap_u64 (n : Int) : IntKind.u64.wrap n = n % 18446744073709551616 := by
  unfold IntKind.wrap
  simp [IntKind.signed, IntKind.bits]
theorem two64 : ((2 ^ 64 : Nat) : Int) = 18446744073709551616 := by decide
theorem two64n : (2 ^ 64 : Nat) = 18446744073709551616 := by decide
theorem toNat_ofInt64 {x : Int} (h : U64ok x) : (BitVec.ofInt 64 x).toNat = x.toNat := by
  rw [BitVec.toNat_ofInt, two64, Int.emod_eq_of_lt h.1 (by have := h.2; omega)]
theorem natlt64 {x : Int} (h : U64ok x) : x.toNat < 2 ^ 64 := by
  have := h.1; have := h.2; rw [two64n]; omega
theorem u64_of {n : Nat} (h : n < 2 ^ 64) : U64ok (n : Int) := by
  rw [two64n] at h; exact ⟨by omega, by omega⟩
theorem u64_nat {x : Int} (h : U64ok x) : ∃ n : Nat, x = n ∧ n < 2 ^ 64 := ⟨x.toNat, (Int.toNat_of_nonneg h.1).symm, natlt64 h⟩
theorem wr_u64n {n : Nat} (h : n < 2 ^ 64) : wr .u64 (n : Int) = n := by
  have := (u64_of h)
  show IntKind.u64.wrap _ = _
  rw [wrap_u64, Int.emod_eq_of_lt this.1 (by have := this.2; omega)]
theorem and_u64 {x y : Nat} (hx : x < 2 ^ 64) (hy : y < 2 ^ 64) : bitop .and .u64 (x : Int) (y : Int) = ((x &&& y : Nat) : Int) := by
  show IntKind.u64.wrap ((BitVec.ofInt 64 x &&& BitVec.ofInt 64 y).toNat : Int) = _
  rw [BitVec.toNat_and, toNat_ofInt64 (u64_of hx), toNat_ofInt64 (u64_of hy)]
  exact wr_u64n (Nat.and_lt_two_pow _ hy)
theorem or_u64 {x y : Nat} (hx : x < 2 ^ 64) (hy : y < 2 ^ 64) : bitop .or .u64 (x : Int) (y : Int) = ((x ||| y : Nat) : Int) := by
  show IntKind.u64.wrap ((BitVec.ofInt 64 x ||| BitVec.ofInt 64 y).toNat : Int) = _
  rw [BitVec.toNat_or, toNat_ofInt64 (u64_of hx), toNat_ofInt64 (u64_of hy)]
  exact wr_u64n (Nat.or_lt_two_pow hx hy)
theorem shr_u64 (x : Nat) (n : Nat) (hn : n ≤ 63) : shrop .u64 (x : Int) n = ((x >>> n : Nat) : Int) := by
  unfold shrop
  rw [show min ((n : Int)).toNat IntKind.u64.bits = n by simp only [IntKind.bits]; omega]
  have hp : (0 : Int) < 2 ^ n := Int.pow_pos (by decide)
  rw [Int.fdiv_eq_ediv_of_nonneg _ (Int.le_of_lt hp), Nat.shiftRight_eq_div_pow]
  simp
theorem shl1_u64 {x : Nat} (_ : x < 2 ^ 64) : shlop .u64 (x : Int) 1 = ((2 * x % 2 ^ 64 : Nat) : Int) := by
  unfold shlop
  rw [show min ((1 : Int)).toNat IntKind.u64.bits = 1 by simp only [IntKind.bits]; omega, wrap_u64]
  rw [two64n]; omega

/-! ## the sum of bits, as the library has it -/
def oc1 (x : Int) : Int := wr .u64 (bitop .and .u64 (shrop .u64 x 1) 6148914691236517205 + bitop .and .u64 x 6148914691236517205)
def oc2 (x : Int) : Int := wr .u64 (bitop .and .u64 (shrop .u64 x 2) 3689348814741910323 + bitop .and .u64 x 3689348814741910323)
def oc3 (x : Int) : Int := bitop .and .u64 (wr .u64 (shrop .u64 x 4 + x)) 1085102592571150095
def oc4 (x : Int) : Int := wr .u64 (x + shrop .u64 x 8)
def oc5 (x : Int) : Int := wr .u64 (x + shrop .u64 x 16)
def oc6 (x : Int) : Int := wr .u64 (x + shrop .u64 x 32)
def oc64 (x : Int) : Int := bitop .and .i64 (wr .i64 (oc6 (oc5 (oc4 (oc3 (oc2 (oc1 x))))))) 127

theorem sum8 {s0 s1 s2 s3 s4 s5 s6 s7 S : Nat} (h0 : s0 ≤ 8 ∧ s1 ≤ 8 ∧ s2 ≤ 8 ∧ s3 ≤ 8) (h4 : s4 ≤ 8 ∧ s5 ≤ 8 ∧ s6 ≤ 8 ∧ s7 ≤ 8) (h : S = s0 + 256 * (s1 + 256 * (s2 + 256 * (s3 + 256 * (s4 + 256 * (s5 + 256 * (s6 + 256 * s7))))))) :
    ∃ a b c : Nat, a = S + S >>> 8 ∧ b = a + a >>> 16 ∧ c = b + b >>> 32 ∧ S < 2 ^ 62 ∧ a < 2 ^ 62 ∧ b < 2 ^ 62 ∧ c < 2 ^ 62 ∧ c % 128 = s0 + (s1 + (s2 + (s3 + (s4 + (s5 + (s6 + s7)))))) := by
  obtain ⟨t7, e7⟩ : ∃ t, t = s7 := ⟨_, rfl⟩
  obtain ⟨t6, e6⟩ : ∃ t, t = s6 + 256 * t7 := ⟨_, rfl⟩
  obtain ⟨t5, e5⟩ : ∃ t, t = s5 + 256 * t6 := ⟨_, rfl⟩
  obtain ⟨t4, e4⟩ : ∃ t, t = s4 + 256 * t5 := ⟨_, rfl⟩
  obtain ⟨t3, e3⟩ : ∃ t, t = s3 + 256 * t4 := ⟨_, rfl⟩
  obtain ⟨t2, e2⟩ : ∃ t, t = s2 + 256 * t3 := ⟨_, rfl⟩
  obtain ⟨t1, e1⟩ : ∃ t, t = s1 + 256 * t2 := ⟨_, rfl⟩
  have hS : S = s0 + 256 * t1 := by rw [h, e1, e2, e3, e4, e5, e6, e7]
  have p62 : (2 : Nat) ^ 62 = 4611686018427387904 := by decide
  have q8 : S >>> 8 = t1 := by rw [Nat.shiftRight_eq_div_pow]; omega
  have b7 : t7 ≤ 8 := by omega
  have b6 : t6 ≤ 8 + 256 * 8 := by omega
  have b5 : t5 ≤ 8 + 256 * 8 + 65536 * 8 := by omega
  have b4 : t4 ≤ 8 + 256 * 8 + 65536 * 8 + 16777216 * 8 := by omega
  have b3 : t3 ≤ 40000000000 := by omega
  have b2 : t2 ≤ 11000000000000 := by omega
  have b1 : t1 ≤ 3000000000000000 := by omega
  have q16 : (S + t1) >>> 16 = t2 + t3 := by rw [Nat.shiftRight_eq_div_pow]; omega
  have q32 : (S + t1 + (t2 + t3)) >>> 32 = t4 + t5 + t6 + t7 := by
    rw [Nat.shiftRight_eq_div_pow]
    have : S + t1 + (t2 + t3) = (s0 + s1 + s2 + s3) + 256 * (s1 + s2 + s3 + s4) + 65536 * (s2 + s3 + s4 + s5) + 16777216 * (s3 + s4 + s5 + s6) + 4294967296 * (t4 + t5 + t6 + t7) := by omega
    omega
  refine ⟨S + t1, S + t1 + (t2 + t3), S + t1 + (t2 + t3) + (t4 + t5 + t6 + t7), by rw [q8], by rw [q16], by rw [q32], ?_, ?_, ?_, ?_, ?_⟩
  all_goals (try rw [p62]) <;> omega

theorem oc64_eq {x : Int} (hx : U64ok x) : oc64 x = cnt64 x := by
  obtain ⟨n, rfl, hn⟩ := u64_nat hx
  have m1 : (6148914691236517205 : Nat) < 2 ^ 64 := by decide
  have m2 : (3689348814741910323 : Nat) < 2 ^ 64 := by decide
  have m4 : (1085102592571150095 : Nat) < 2 ^ 64 := by decide
  have sh : ∀ (a k : Nat), a < 2 ^ 64 → a >>> k < 2 ^ 64 := fun a k h => by
    rw [Nat.shiftRight_eq_div_pow]; exact Nat.lt_of_le_of_lt (Nat.div_le_self _ _) h
  have e1 : oc1 (n : Int) = (((n >>> 1) &&& 6148914691236517205) + (n &&& 6148914691236517205) : Nat) := by
    unfold oc1
    have a1 : shrop .u64 (n : Int) 1 = _ := shr_u64 n 1 (by decide)
    rw [a1]
    have a2 : bitop .and .u64 ((n >>> 1 : Nat) : Int) 6148914691236517205 = (((n >>> 1) &&& 6148914691236517205 : Nat) : Int) := and_u64 (sh n 1 hn) m1
    have a3 : bitop .and .u64 (n : Int) 6148914691236517205 = ((n &&& 6148914691236517205 : Nat) : Int) := and_u64 hn m1
    rw [a2, a3, ← Int.natCast_add]
    refine wr_u64n ?_
    have := Nat.and_le_right (n := n >>> 1) (m := 6148914691236517205)
    have := Nat.and_le_right (n := n) (m := 6148914691236517205)
    rw [two64n]; omega
  rw [show oc64 (n : Int) = bitop .and .i64 (wr .i64 (oc6 (oc5 (oc4 (oc3 (oc2 (oc1 (n : Int)))))))) 127 from rfl, e1]
  have b1 : ((n >>> 1) &&& 6148914691236517205) + (n &&& 6148914691236517205) < 2 ^ 64 := by
    have := Nat.and_le_right (n := n >>> 1) (m := 6148914691236517205)
    have := Nat.and_le_right (n := n) (m := 6148914691236517205)
    rw [two64n]; omega
  generalize hy : ((n >>> 1) &&& 6148914691236517205) + (n &&& 6148914691236517205) = y at b1
  have b2 : ((y >>> 2) &&& 3689348814741910323) + (y &&& 3689348814741910323) ≤ 7378697629483820646 := by
    have := Nat.and_le_right (n := y >>> 2) (m := 3689348814741910323)
    have := Nat.and_le_right (n := y) (m := 3689348814741910323)
    omega
  have e2 : oc2 (y : Int) = (((y >>> 2) &&& 3689348814741910323) + (y &&& 3689348814741910323) : Nat) := by
    unfold oc2
    have a1 : shrop .u64 (y : Int) 2 = _ := shr_u64 y 2 (by decide)
    rw [a1]
    have a2 : bitop .and .u64 ((y >>> 2 : Nat) : Int) 3689348814741910323 = (((y >>> 2) &&& 3689348814741910323 : Nat) : Int) := and_u64 (sh y 2 b1) m2
    have a3 : bitop .and .u64 (y : Int) 3689348814741910323 = ((y &&& 3689348814741910323 : Nat) : Int) := and_u64 b1 m2
    rw [a2, a3, ← Int.natCast_add]
    refine wr_u64n ?_
    rw [two64n]; omega
  rw [e2]
  generalize hz : ((y >>> 2) &&& 3689348814741910323) + (y &&& 3689348814741910323) = z at b2
  have hs : (z >>> 4 + z) &&& 1085102592571150095 = swar n := by
    unfold swar; simp only [hy, hz]
  have b3 : z >>> 4 + z < 2 ^ 64 := by rw [Nat.shiftRight_eq_div_pow, two64n]; omega
  have e3 : oc3 (z : Int) = (swar n : Nat) := by
    unfold oc3
    have a1 : shrop .u64 (z : Int) 4 = _ := shr_u64 z 4 (by decide)
    rw [a1, ← Int.natCast_add, wr_u64n b3, ← hs]
    exact and_u64 b3 m4
  rw [e3]
  obtain ⟨s0, s1, s2, s3, s4, s5, s6, s7, h0, h4, hS, hc⟩ := swar_sum n
  obtain ⟨a, b, c, ea, eb, ec, lS, la, lb, lc, hm⟩ := sum8 h0 h4 hS
  have p62 : (2 : Nat) ^ 62 = 4611686018427387904 := by decide
  have lt : ∀ k : Nat, k < 2 ^ 62 → k < 2 ^ 64 := fun k hk => by rw [p62] at hk; rw [two64n]; omega
  have e4 : oc4 (swar n : Int) = (a : Nat) := by
    unfold oc4
    have a1 : shrop .u64 (swar n : Int) 8 = _ := shr_u64 (swar n) 8 (by decide)
    rw [a1, ← Int.natCast_add, ← ea]; exact wr_u64n (lt _ la)
  have e5 : oc5 (a : Int) = (b : Nat) := by
    unfold oc5
    have a1 : shrop .u64 (a : Int) 16 = _ := shr_u64 a 16 (by decide)
    rw [a1, ← Int.natCast_add, ← eb]; exact wr_u64n (lt _ lb)
  have e6 : oc6 (b : Int) = (c : Nat) := by
    unfold oc6
    have a1 : shrop .u64 (b : Int) 32 = _ := shr_u64 b 32 (by decide)
    rw [a1, ← Int.natCast_add, ← ec]; exact wr_u64n (lt _ lc)
  rw [e4, e5, e6, wr_i64 _ (by omega) (by rw [p62] at lc; omega)]
  have fin : bitop .and .i64 (c : Int) 127 = ((c &&& 127 : Nat) : Int) := by
    show IntKind.i64.wrap ((BitVec.ofInt 64 c &&& BitVec.ofInt 64 127).toNat : Int) = _
    rw [BitVec.toNat_and, toNat_ofInt64 (u64_of (lt _ lc)), toNat_ofInt64 ⟨by decide, by decide⟩]
    have h1 : (c : Int).toNat &&& (127 : Int).toNat = c &&& 127 := by rw [Int.toNat_natCast]; rfl
    rw [h1]
    have h2 := Nat.and_le_right (n := c) (m := 127)
    exact wr_i64 _ (by omega) (by omega)
  rw [fin, show (127 : Nat) = 2 ^ 7 - 1 from rfl, Nat.and_two_pow_sub_one_eq_mod]
  unfold cnt64
  rw [Int.toNat_natCast, hc]
  show ((c % 128 : Nat) : Int) = _
  rw [hm]

/-! ## shifted by one -/
theorem testBit_double (x j : Nat) (hx : x < 2 ^ 64) : (2 * x % 2 ^ 64).testBit j = (decide (1 ≤ j) && decide (j < 64) && x.testBit (j - 1)) := by
  have _ := hx
  rw [Nat.testBit_mod_two_pow]
  cases j with
  | zero => simp
  | succ j =>
    rw [show 2 * x = x <<< 1 by rw [Nat.shiftLeft_eq]; omega, Nat.testBit_shiftLeft]
    simp

theorem or_one {x : Nat} (hx : x % 2 = 0) : x ||| 1 = x + 1 := by
  apply Nat.eq_of_testBit_eq
  intro j
  rw [Nat.testBit_or]
  cases j with
  | zero => simp [hx]; omega
  | succ j =>
    simp only [Nat.testBit_succ]
    rw [show (x + 1) / 2 = x / 2 by omega]
    simp

theorem testBit_or_one (x j : Nat) : (x ||| 1).testBit j = (x.testBit j || decide (j = 0)) := by
  rw [Nat.testBit_or]
  cases j with
  | zero => simp
  | succ j => simp [Nat.testBit_succ]

/-- the two halves' bits -/
theorem cnt_halves {n : Nat} (hn : n < 2 ^ 64) : cntN (n % 4294967296) 0 32 + cntN (n / 4294967296) 0 32 = cntN n 0 64 := by
  have _ := hn
  rw [show (64 : Nat) = 32 + 32 from rfl, cntN_add]
  congr 1
  · unfold cntN
    congr 1
    refine List.filter_congr fun i hi => ?_
    have hi : i < 32 := by simpa using hi
    rw [show (4294967296 : Nat) = 2 ^ 32 from rfl, Nat.testBit_mod_two_pow]
    simp [hi]
  · unfold cntN
    congr 1
    refine List.filter_congr fun i _ => ?_
    rw [show (4294967296 : Nat) = 2 ^ 32 from rfl, ← Nat.shiftRight_eq_div_pow, Nat.testBit_shiftRight]
    congr 1
    omega

end Go.Den
namespace Go.Den
open Go.RowKit

/-! # More loops, plainly -/
def UpRound {σ A : Type} (c : σ → Int) (Inv : σ → Prop) (P : A → Prop) (k : Int) : Step σ A → Prop
  | .next s' => c s' = k + 1 ∧ Inv s'
  | .done a => P a
def EndRound {σ A : Type} (P : A → Prop) : Step σ A → Prop
  | .next _ => False
  | .done a => P a

/-- a loop that counts up to n -/
theorem iter_up {σ A : Type} {bad : A} {f : σ → Step σ A} (c : σ → Int) (n : Int) (Inv : σ → Prop) (P : A → Prop) {s0 : σ} (hn : n < 18446744073709551616) (hc0 : 0 ≤ c s0) (hcn : c s0 ≤ n) (h0 : Inv s0)
    (hstep : ∀ s, Inv s → 0 ≤ c s → c s < n → UpRound c Inv P (c s) (f s)) (hend : ∀ s, Inv s → c s = n → EndRound P (f s)) : P (iter bad f lots s0) := by
  refine iter_ind (fun s => Inv s ∧ 0 ≤ c s ∧ c s ≤ n) (fun s => (n - c s).toNat) P ?_ lots s0 ⟨h0, hc0, hcn⟩ (by rw [lots_eq]; omega)
  rintro s ⟨hI, h1, h2⟩
  by_cases h : c s < n
  · have := hstep s hI h1 h
    cases hf : f s with
    | next s' => rw [hf] at this; exact ⟨⟨this.2, by have := this.1; omega, by have := this.1; omega⟩, by have := this.1; show (n - c s').toNat < (n - c s).toNat; omega⟩
    | done a => rw [hf] at this; exact this
  · have := hend s hI (by omega)
    cases hf : f s with
    | next s' => rw [hf] at this; exact this.elim
    | done a => rw [hf] at this; exact this

/-- two lists held against each other -/
theorem same_loop {α : Type} {l m : List α} {f : Int → Step Int (Option Bool)} (E : α → α → Bool) (hE : ∀ a b, E a b = true ↔ a = b) (hlen : llen l = llen m) (hl : llen l ≤ 9223372036854775807)
    (hf : ∀ i a b, 0 ≤ i → i < llen l → idx l i = some a → idx m i = some b → f i = cnd (!(E a b)) (.done (some false)) (.next (wr .i64 (i + 1)))) (hend : ∀ i, ¬ i < llen l → f i = .done (some true)) :
    ∃ b, iter none f lots 0 = some b ∧ (b = true ↔ l = m) := by
  refine iter_up (fun i => i) (llen l) (fun i => ∀ j, 0 ≤ j → j < i → idx l j = idx m j) (fun a => ∃ b, a = some b ∧ (b = true ↔ l = m)) (by omega) (by omega) (llen_nonneg l) (fun j h0 h1 => by omega) (fun i hI i0 i1 => ?_) (fun i hI he => ?_)
  · obtain ⟨a, ha, _⟩ := idx_get i0 i1
    obtain ⟨b, hb, _⟩ := idx_get (l := m) i0 (by omega)
    rw [hf i a b i0 i1 ha hb, wr_i64 (i + 1) (by omega) (by omega)]
    cases he : E a b with
    | true =>
      refine ⟨rfl, fun j j0 j1 => ?_⟩
      by_cases e : j = i
      · rw [e, ha, hb, (hE a b).1 he]
      · exact hI j j0 (by omega)
    | false => exact ⟨false, rfl, fun h => (by cases h), fun h => by rw [h] at ha; rw [ha] at hb; cases hb; rw [(hE a a).2 rfl] at he; cases he⟩
  · rw [hend i (by omega)]
    exact ⟨true, rfl, fun _ => idx_ext hlen fun j j0 j1 => hI j j0 (by omega), fun _ => rfl⟩

/-- is there one so -/
def AnyIdx {α : Type} (l : List α) (Q : Int → α → Prop) : Prop := ∃ i x, idx l i = some x ∧ Q i x

/-- a loop that looks whether there is one so -/
theorem iter_any {α A : Type} {l : List α} {bad : A} {f : Bool × Int → Step (Bool × Int) A} (Q : Int → α → Prop) (P : A → Prop) (b0 : Bool) (hl : llen l ≤ 9223372036854775807)
    (hf : ∀ b i x, 0 ≤ i → i < llen l → idx l i = some x → ∃ b', f (b, i) = .next (b', wr .i64 (i + 1)) ∧ (b' = true ↔ b = true ∨ Q i x)) (hend : ∀ b i, ¬ i < llen l → (b = true ↔ b0 = true ∨ AnyIdx l Q) → EndRound P (f (b, i))) : P (iter bad f lots (b0, 0)) := by
  refine iter_up (fun s => s.2) (llen l) (fun s => s.1 = true ↔ b0 = true ∨ ∃ i x, i < s.2 ∧ idx l i = some x ∧ Q i x) P (by omega) (by simp) (llen_nonneg l) ⟨fun h => .inl h, fun h => h.elim id fun ⟨i, x, h1, h2, _⟩ => by have := (idx_some_iff h2).1; simp only at h1; omega⟩ (fun s hI i0 i1 => ?_) (fun s hI he => ?_)
  · obtain ⟨b, i⟩ := s
    simp only at hI i0 i1
    obtain ⟨x, hx, _⟩ := idx_get i0 i1
    obtain ⟨b', h1, h2⟩ := hf b i x i0 i1 hx
    rw [h1, wr_i64 (i + 1) (by omega) (by omega)]
    refine ⟨rfl, h2.trans ?_⟩
    rw [hI]
    constructor
    · rintro ((h | ⟨j, y, j1, hy, hq⟩) | h)
      · exact .inl h
      · exact .inr ⟨j, y, by simp only; omega, hy, hq⟩
      · exact .inr ⟨i, x, by simp only; omega, hx, h⟩
    · rintro (h | ⟨j, y, j1, hy, hq⟩)
      · exact .inl (.inl h)
      · by_cases e : j = i
        · subst e; rw [hx] at hy; cases hy; exact .inr hq
        · exact .inl (.inr ⟨j, y, by simp only at j1; omega, hy, hq⟩)
  · obtain ⟨b, i⟩ := s
    simp only at hI he
    refine hend b i (by omega) (hI.trans (or_congr_right ⟨fun ⟨j, x, _, h1, h2⟩ => ⟨j, x, h1, h2⟩, fun ⟨j, x, h1, h2⟩ => ⟨j, x, by have := (idx_some_iff h1).2.1; omega, h1, h2⟩⟩))

theorem shrBit {s i : Int} (hs : U32ok s) (h0 : 0 ≤ i) (h1 : i ≤ 31) : ((irem (shrop .u32 s (wr .u64 i)) 2) == 1) = bitI s i := by
  have hw : wr .u64 i = i := by
    show IntKind.u64.wrap i = i
    rw [wrap_u64]; omega
  obtain ⟨n, rfl⟩ : ∃ n : Nat, i = n := ⟨i.toNat, by omega⟩
  rw [hw, shr_u32 hs n (by omega)]
  apply Bool.eq_iff_iff.2
  rw [beq_iff_eq]
  unfold irem bitI
  have e : (((s.toNat >>> n : Nat) : Int)).tmod 2 = ((s.toNat >>> n % 2 : Nat) : Int) := by
    rw [Int.tmod_eq_emod_of_nonneg (Int.natCast_nonneg _)]; omega
  rw [e, Int.toNat_natCast, Nat.testBit_eq_decide_div_mod_eq, Nat.shiftRight_eq_div_pow]
  simp only [Bool.and_eq_true, decide_eq_true_eq]
  omega

theorem shrBit0 {s i : Int} (hs : U32ok s) (h0 : 0 ≤ i) (h1 : i ≤ 31) : ((irem (shrop .u32 s (wr .u64 i)) 2) == 0) = !bitI s i := by
  rw [← shrBit hs h0 h1]
  have hm : irem (shrop .u32 s (wr .u64 i)) 2 = 0 ∨ irem (shrop .u32 s (wr .u64 i)) 2 = 1 := by
    have hw : wr .u64 i = i := by
      show IntKind.u64.wrap i = i
      rw [wrap_u64]; omega
    obtain ⟨n, rfl⟩ : ∃ n : Nat, i = n := ⟨i.toNat, by omega⟩
    rw [hw, shr_u32 hs n (by omega)]
    unfold irem
    rw [Int.tmod_eq_emod_of_nonneg (Int.natCast_nonneg _)]; omega
  rcases hm with h | h <;> rw [h] <;> rfl

theorem idx_mapIdx {α β : Type} {l : List α} {f : Nat → α → β} {i : Int} (h0 : 0 ≤ i) : idx (l.mapIdx f) i = (idx l i).map (f i.toNat) := by
  rw [idx_nat h0, idx_nat h0, List.getElem?_mapIdx]
theorem llen_mapIdx {α β : Type} {l : List α} {f : Nat → α → β} : llen (l.mapIdx f) = llen l := by unfold llen; rw [List.length_mapIdx]
theorem idx_map {α β : Type} {l : List α} {f : α → β} {i : Int} : idx (l.map f) i = (idx l i).map f := by
  unfold idx; split
  · rw [List.getElem?_map]
  · rfl
theorem llen_map {α β : Type} {l : List α} {f : α → β} : llen (l.map f) = llen l := by unfold llen; rw [List.length_map]
theorem nil_app {α : Type} (l : List α) : ([] : List α) ++ l = l := rfl
theorem llen_nil {α : Type} : llen ([] : List α) = 0 := rfl
theorem llen_cons {α : Type} (a : α) (l : List α) : llen (a :: l) = llen l + 1 := by unfold llen; rw [List.length_cons]; omega
theorem room_snoc {α : Type} {l : List α} {x : α} {b : Nat} (h : (llen l + 1) * b ≤ 70368744177664) : (true && roomOK (llen l + llen (x :: ([] : List α))) b) = true := by
  rw [Bool.true_and]; exact room_le (by rw [llen_cons, llen_nil]; simpa using h)
theorem make_ok {n : Int} {b : Nat} (h0 : 0 ≤ n) (h : (b : Int) * n ≤ 140737488355328) : ((decide (0 ≤ n)) && ((decide (n ≤ n)) && (makeOK n b))) = true := by
  rw [make_le h]; simp [h0]

end Go.Den
