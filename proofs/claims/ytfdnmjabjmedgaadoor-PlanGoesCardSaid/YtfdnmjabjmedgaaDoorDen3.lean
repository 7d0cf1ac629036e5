/- Part 3 of a plain reading of Go code: an evaluator of code as functions of typed data, and that it tells what the machine does. -/
import Derived.Test.YtfdnmjabjmedgaaDoorDen2
import Derived.Lib.TrailingZeros
namespace Go.Den
open Go.RowKit

/-! # Sets of bits, and elements of lists, plainly -/
/-- is the bit in the set -/
def bitI (x i : Int) : Bool := decide (0 ≤ i) && x.toNat.testBit i.toNat

def U32ok (x : Int) : Prop := 0 ≤ x ∧ x ≤ 4294967295

theorem wrap_u32 (n : Int) : IntKind.u32.wrap n = n % 4294967296 := by
  unfold IntKind.wrap
  simp [IntKind.signed, IntKind.bits]

theorem two32 : ((2 ^ 32 : Nat) : Int) = 4294967296 := by decide

theorem toNat_ofInt32 {x : Int} (h : U32ok x) : (BitVec.ofInt 32 x).toNat = x.toNat := by
  rw [BitVec.toNat_ofInt, two32, Int.emod_eq_of_lt h.1 (by have := h.2; omega)]

theorem natlt {x : Int} (h : U32ok x) : x.toNat < 2 ^ 32 := by
  have := h.1; have := h.2
  have : (2 : Nat) ^ 32 = 4294967296 := by decide
  omega

theorem u32_of {n : Nat} (h : n < 2 ^ 32) : U32ok (n : Int) := by
  have : (2 : Nat) ^ 32 = 4294967296 := by decide
  exact ⟨by omega, by omega⟩

theorem wrap_nat {n : Nat} (h : n < 2 ^ 32) : IntKind.u32.wrap (n : Int) = n := by
  have := (u32_of h)
  rw [wrap_u32, Int.emod_eq_of_lt this.1 (by have := this.2; omega)]

theorem and_u32 {x y : Int} (hx : U32ok x) (hy : U32ok y) : bitop .and .u32 x y = ((x.toNat &&& y.toNat : Nat) : Int) := by
  show IntKind.u32.wrap ((BitVec.ofInt 32 x &&& BitVec.ofInt 32 y).toNat : Int) = _
  rw [BitVec.toNat_and, toNat_ofInt32 hx, toNat_ofInt32 hy]
  exact wrap_nat (Nat.and_lt_two_pow _ (natlt hy))

theorem or_u32 {x y : Int} (hx : U32ok x) (hy : U32ok y) : bitop .or .u32 x y = ((x.toNat ||| y.toNat : Nat) : Int) := by
  show IntKind.u32.wrap ((BitVec.ofInt 32 x ||| BitVec.ofInt 32 y).toNat : Int) = _
  rw [BitVec.toNat_or, toNat_ofInt32 hx, toNat_ofInt32 hy]
  exact wrap_nat (Nat.or_lt_two_pow (natlt hx) (natlt hy))

theorem andNot_u32 {x y : Int} (hx : U32ok x) (hy : U32ok y) : bitop .andNot .u32 x y = ((x.toNat &&& (2 ^ 32 - 1 - y.toNat) : Nat) : Int) := by
  show IntKind.u32.wrap ((BitVec.ofInt 32 x &&& ~~~ BitVec.ofInt 32 y).toNat : Int) = _
  rw [BitVec.toNat_and, BitVec.toNat_not, toNat_ofInt32 hx, toNat_ofInt32 hy]
  exact wrap_nat (Nat.lt_of_le_of_lt Nat.and_le_left (natlt hx))

theorem and_ok {x y : Int} (hx : U32ok x) (hy : U32ok y) : U32ok (bitop .and .u32 x y) := by
  rw [and_u32 hx hy]; exact u32_of (Nat.and_lt_two_pow _ (natlt hy))
theorem or_ok {x y : Int} (hx : U32ok x) (hy : U32ok y) : U32ok (bitop .or .u32 x y) := by
  rw [or_u32 hx hy]; exact u32_of (Nat.or_lt_two_pow (natlt hx) (natlt hy))
theorem andNot_ok {x y : Int} (hx : U32ok x) (hy : U32ok y) : U32ok (bitop .andNot .u32 x y) := by
  rw [andNot_u32 hx hy]; exact u32_of (Nat.lt_of_le_of_lt Nat.and_le_left (natlt hx))

theorem bit_and {x y : Int} (hx : U32ok x) (hy : U32ok y) (i : Int) : bitI (bitop .and .u32 x y) i = (bitI x i && bitI y i) := by
  unfold bitI
  rw [and_u32 hx hy, Int.toNat_natCast, Nat.testBit_and]
  cases decide (0 ≤ i) <;> simp

theorem bit_or {x y : Int} (hx : U32ok x) (hy : U32ok y) (i : Int) : bitI (bitop .or .u32 x y) i = (bitI x i || bitI y i) := by
  unfold bitI
  rw [or_u32 hx hy, Int.toNat_natCast, Nat.testBit_or]
  cases decide (0 ≤ i) <;> simp

theorem bit_high {x i : Int} (hx : U32ok x) (hi : 32 ≤ i) : bitI x i = false := by
  unfold bitI
  rw [Nat.testBit_lt_two_pow (Nat.lt_of_lt_of_le (natlt hx) (Nat.pow_le_pow_right (by decide) (by omega)))]
  simp

theorem bit_andNot {x y : Int} (hx : U32ok x) (hy : U32ok y) (i : Int) : bitI (bitop .andNot .u32 x y) i = (bitI x i && !bitI y i) := by
  by_cases hi : 32 ≤ i
  · rw [bit_high (andNot_ok hx hy) hi, bit_high hx hi]; rfl
  · unfold bitI
    rw [andNot_u32 hx hy, Int.toNat_natCast, Nat.testBit_and]
    have e : (2 ^ 32 - 1 - y.toNat).testBit i.toNat = (decide (i.toNat < 32) && !y.toNat.testBit i.toNat) := by
      rw [show 2 ^ 32 - 1 - y.toNat = 2 ^ 32 - (y.toNat + 1) by omega, Nat.testBit_two_pow_sub_succ (natlt hy)]
    rw [e]
    by_cases h0 : 0 ≤ i
    · have : i.toNat < 32 := by omega
      simp [h0, this]
    · simp [h0]

theorem bit_neg {x i : Int} (hi : i < 0) : bitI x i = false := by
  unfold bitI
  have : ¬ 0 ≤ i := by omega
  simp [this]

theorem bit_ext {x y : Int} (hx : U32ok x) (hy : U32ok y) (h : ∀ i, 0 ≤ i → i < 32 → bitI x i = bitI y i) : x = y := by
  have : x.toNat = y.toNat := by
    apply Nat.eq_of_testBit_eq
    intro i
    by_cases hi : i < 32
    · have := h (i : Int) (by omega) (by omega)
      simpa [bitI] using this
    · have hp : 2 ^ 32 ≤ 2 ^ i := Nat.pow_le_pow_right (by decide) (by omega)
      rw [Nat.testBit_lt_two_pow (Nat.lt_of_lt_of_le (natlt hx) hp), Nat.testBit_lt_two_pow (Nat.lt_of_lt_of_le (natlt hy) hp)]
  have := hx.1; have := hy.1
  omega

theorem bit_zero (i : Int) : bitI 0 i = false := by unfold bitI; simp

theorem shl1 {i : Int} (h0 : 0 ≤ i) (h1 : i ≤ 31) : shlop .u32 1 i = ((2 ^ i.toNat : Nat) : Int) := by
  unfold shlop
  rw [show min i.toNat IntKind.u32.bits = i.toNat by simp only [IntKind.bits]; omega, Int.one_mul]
  have : ((2 : Int) ^ i.toNat) = ((2 ^ i.toNat : Nat) : Int) := by simp
  rw [this]
  exact wrap_nat (Nat.pow_lt_pow_right (by decide) (by omega))

theorem pow_ok {i : Int} (h0 : 0 ≤ i) (h1 : i ≤ 31) : U32ok ((2 ^ i.toNat : Nat) : Int) := u32_of (Nat.pow_lt_pow_right (by decide) (by omega))

theorem bit_pow {i j : Int} (h0 : 0 ≤ i) : bitI ((2 ^ i.toNat : Nat) : Int) j = decide (i = j) := by
  unfold bitI
  rw [Int.toNat_natCast, Nat.testBit_two_pow]
  by_cases hj : 0 ≤ j
  · by_cases e : i = j
    · subst e; simp [h0]
    · have : ¬ i.toNat = j.toNat := by omega
      simp [e, this]
  · have : ¬ i = j := by omega
    simp [hj, this]

/-- a set that has nothing from n on -/
theorem shr_zero {x n : Int} (hx : U32ok x) (h0 : 0 ≤ n) (h1 : n ≤ 31) : (shrop .u32 x n = 0) ↔ ∀ i, n ≤ i → bitI x i = false := by
  unfold shrop
  rw [show min n.toNat IntKind.u32.bits = n.toNat by simp only [IntKind.bits]; omega]
  have hp : (0 : Int) < 2 ^ n.toNat := Int.pow_pos (by decide)
  rw [Int.fdiv_eq_ediv_of_nonneg _ (Int.le_of_lt hp)]
  have key : x / 2 ^ n.toNat = 0 ↔ x.toNat < 2 ^ n.toNat := by
    obtain ⟨m, rfl⟩ : ∃ m : Nat, x = m := ⟨x.toNat, (Int.toNat_of_nonneg hx.1).symm⟩
    have e : ((m : Int) / 2 ^ n.toNat) = ((m / 2 ^ n.toNat : Nat) : Int) := by simp
    rw [e, Int.toNat_natCast, Int.natCast_eq_zero, Nat.div_eq_zero_iff]
    simp
  rw [key]
  constructor
  · intro h i hi
    unfold bitI
    rw [Nat.testBit_lt_two_pow (Nat.lt_of_lt_of_le h (Nat.pow_le_pow_right (by decide) (by omega)))]
    simp
  · intro h
    apply Nat.lt_pow_two_of_testBit
    intro i hi
    have := h (i : Int) (by omega)
    simpa [bitI] using this

/-! ## the lowest bit -/
def low (x : Int) : Int := if x = 0 then 32 else Lib.ctz 32 x.toNat

theorem low_spec {x : Int} (hx : U32ok x) (h0 : x ≠ 0) : 0 ≤ low x ∧ low x < 32 ∧ bitI x (low x) = true ∧ ∀ j, j < low x → bitI x j = false := by
  have hn : x.toNat ≠ 0 := by have := hx.1; omega
  have e : low x = Lib.ctzFrom 32 x.toNat := by simp [low, h0, Lib.ctz, hn]
  obtain ⟨m, hm, hk⟩ := Lib.ctzFrom_spec 32 x.toNat (by omega) (natlt hx)
  rw [e]
  generalize Lib.ctzFrom 32 x.toNat = k at hm hk
  refine ⟨by omega, by omega, ?_, fun j hj => ?_⟩
  · unfold bitI
    rw [hm, Nat.mul_comm, Nat.testBit_mul_two_pow]
    simp
  · unfold bitI
    rw [hm, Nat.mul_comm, Nat.testBit_mul_two_pow]
    have : ¬ k ≤ j.toNat ∨ ¬ 0 ≤ j := by omega
    rcases this with h | h <;> simp [h]

/-! ## how many bits -/
def cntN (x a n : Nat) : Nat := ((List.range n).filter fun i => x.testBit (a + i)).length
def cnt (x : Int) : Int := cntN x.toNat 0 32

theorem cntN_add (x a m n : Nat) : cntN x a (m + n) = cntN x a m + cntN x (a + m) n := by
  unfold cntN
  rw [List.range_add, List.filter_append, List.length_append, List.filter_map, List.length_map]
  congr 2
  apply List.filter_congr
  intro i _
  simp [Function.comp, Nat.add_assoc]

theorem cntN_le (x a : Nat) : ∀ n, cntN x a n ≤ n := fun n => by
  unfold cntN
  exact Nat.le_trans (List.length_filter_le _ _) (by simp)

theorem cntN_shift (x a n : Nat) (h : a + n ≤ 32) (hn : n = 8) : cntN ((x >>> a) &&& 255) 0 n = cntN x a n := by
  subst hn
  unfold cntN
  congr 1
  apply List.filter_congr
  intro i hi
  have hi : i < 8 := by simpa using hi
  rw [Nat.testBit_and, Nat.testBit_shiftRight, show 255 = 2 ^ 8 - 1 from rfl, Nat.testBit_two_pow_sub_one]
  simp [hi]

def pop8 : List UInt8 := [0, 1, 1, 2, 1, 2, 2, 3, 1, 2, 2, 3, 2, 3, 3, 4, 1, 2, 2, 3, 2, 3, 3, 4, 2, 3, 3, 4, 3, 4, 4, 5, 1, 2, 2, 3, 2, 3, 3, 4, 2, 3, 3, 4, 3, 4, 4, 5, 2, 3, 3, 4, 3, 4, 4, 5, 3, 4, 4, 5, 4, 5, 5, 6,
  1, 2, 2, 3, 2, 3, 3, 4, 2, 3, 3, 4, 3, 4, 4, 5, 2, 3, 3, 4, 3, 4, 4, 5, 3, 4, 4, 5, 4, 5, 5, 6, 2, 3, 3, 4, 3, 4, 4, 5, 3, 4, 4, 5, 4, 5, 5, 6, 3, 4, 4, 5, 4, 5, 5, 6, 4, 5, 5, 6, 5, 6, 6, 7,
  1, 2, 2, 3, 2, 3, 3, 4, 2, 3, 3, 4, 3, 4, 4, 5, 2, 3, 3, 4, 3, 4, 4, 5, 3, 4, 4, 5, 4, 5, 5, 6, 2, 3, 3, 4, 3, 4, 4, 5, 3, 4, 4, 5, 4, 5, 5, 6, 3, 4, 4, 5, 4, 5, 5, 6, 4, 5, 5, 6, 5, 6, 6, 7,
  2, 3, 3, 4, 3, 4, 4, 5, 3, 4, 4, 5, 4, 5, 5, 6, 3, 4, 4, 5, 4, 5, 5, 6, 4, 5, 5, 6, 5, 6, 6, 7, 3, 4, 4, 5, 4, 5, 5, 6, 4, 5, 5, 6, 5, 6, 6, 7, 4, 5, 5, 6, 5, 6, 6, 7, 5, 6, 6, 7, 6, 7, 7, 8]

theorem pop8_all : ∀ y : Fin 256, strIdx pop8 (y.val : Int) = some (cntN y.val 0 8 : Int) := by decide +kernel

theorem pop8_at {y : Int} (h0 : 0 ≤ y) (h1 : y < 256) : strIdx pop8 y = some (cntN y.toNat 0 8 : Int) := by
  have := pop8_all ⟨y.toNat, by omega⟩
  simp only [Int.toNat_of_nonneg h0] at this
  exact this

theorem shr_u32 {x : Int} (hx : U32ok x) (n : Nat) (hn : n ≤ 31) : shrop .u32 x n = ((x.toNat >>> n : Nat) : Int) := by
  unfold shrop
  rw [show min ((n : Int)).toNat IntKind.u32.bits = n by simp only [IntKind.bits]; omega]
  have hp : (0 : Int) < 2 ^ n := Int.pow_pos (by decide)
  rw [Int.fdiv_eq_ediv_of_nonneg _ (Int.le_of_lt hp), Nat.shiftRight_eq_div_pow]
  obtain ⟨m, rfl⟩ : ∃ m : Nat, x = m := ⟨x.toNat, (Int.toNat_of_nonneg hx.1).symm⟩
  simp

/-- the sum of four table look-ups, as the library has it -/
def ocTree (x : Int) : Option Int :=
  elimO (strIdx pop8 (shrop .u32 x 24)) none fun a =>
  elimO (strIdx pop8 (bitop .and .u32 (shrop .u32 x 16) 255)) none fun b =>
  elimO (strIdx pop8 (bitop .and .u32 (shrop .u32 x 8) 255)) none fun c =>
  elimO (strIdx pop8 (bitop .and .u32 x 255)) none fun d =>
  some (wr .i64 (wr .u8 (wr .u8 (wr .u8 (a + b) + c) + d)))

theorem ocTree_eq {x : Int} (hx : U32ok x) : ocTree x = some (cnt x) := by
  have ok : ∀ n : Nat, n ≤ 31 → U32ok (shrop .u32 x n) := fun n hn => by
    rw [shr_u32 hx n hn, Nat.shiftRight_eq_div_pow]
    exact u32_of (Nat.lt_of_le_of_lt (Nat.div_le_self _ _) (natlt hx))
  have h255 : U32ok 255 := ⟨by decide, by decide⟩
  have part : ∀ n : Nat, n + 8 ≤ 32 → strIdx pop8 (bitop .and .u32 (shrop .u32 x n) 255) = some (cntN x.toNat n 8 : Int) := fun n hn => by
    rw [and_u32 (ok n (by omega)) h255, shr_u32 hx n (by omega), Int.toNat_natCast]
    have hlt : x.toNat >>> n &&& (255 : Int).toNat < 256 := Nat.and_lt_two_pow (n := 8) _ (by decide)
    rw [pop8_at (by omega) (by omega), Int.toNat_natCast]
    congr 2
    exact cntN_shift _ _ _ hn rfl
  have h24 : strIdx pop8 (shrop .u32 x 24) = some (cntN x.toNat 24 8 : Int) := by
    have e : shrop .u32 x 24 = bitop .and .u32 (shrop .u32 x (24 : Nat)) 255 := by
      rw [and_u32 (ok 24 (by decide)) h255]
      have : shrop .u32 x (24 : Nat) = ((x.toNat >>> 24 : Nat) : Int) := shr_u32 hx 24 (by decide)
      rw [this, Int.toNat_natCast]
      have e2 : shrop .u32 x 24 = ((x.toNat >>> 24 : Nat) : Int) := shr_u32 hx 24 (by decide)
      rw [e2]
      congr 1
      have hlt : x.toNat >>> 24 < 2 ^ 8 := by
        rw [Nat.shiftRight_eq_div_pow]
        have := natlt hx
        exact Nat.div_lt_of_lt_mul (by rw [← Nat.pow_add]; exact this)
      show x.toNat >>> 24 = x.toNat >>> 24 &&& (2 ^ 8 - 1)
      rw [Nat.and_two_pow_sub_one_eq_mod, Nat.mod_eq_of_lt hlt]
    rw [e]; exact part 24 (by decide)
  have h16 := part 16 (by decide)
  have h8 := part 8 (by decide)
  have h0 := part 0 (by decide)
  have e0 : shrop .u32 x (0 : Nat) = x := by rw [shr_u32 hx 0 (by decide)]; simpa using Int.toNat_of_nonneg hx.1
  rw [e0] at h0
  unfold ocTree
  have h16' : strIdx pop8 (bitop .and .u32 (shrop .u32 x 16) 255) = some (cntN x.toNat 16 8 : Int) := h16
  have h8' : strIdx pop8 (bitop .and .u32 (shrop .u32 x 8) 255) = some (cntN x.toNat 8 8 : Int) := h8
  rw [h24, h16', h8', h0]
  simp only [elimO]
  have l0 := cntN_le x.toNat 0 8
  have l1 := cntN_le x.toNat 8 8
  have l2 := cntN_le x.toNat 16 8
  have l3 := cntN_le x.toNat 24 8
  rw [wr_u8 ((cntN x.toNat 24 8 : Int) + (cntN x.toNat 16 8 : Int)) (by omega) (by omega), wr_u8 ((cntN x.toNat 24 8 : Int) + (cntN x.toNat 16 8 : Int) + (cntN x.toNat 8 8 : Int)) (by omega) (by omega),
    wr_u8 ((cntN x.toNat 24 8 : Int) + (cntN x.toNat 16 8 : Int) + (cntN x.toNat 8 8 : Int) + (cntN x.toNat 0 8 : Int)) (by omega) (by omega), wr_i64 _ (by omega) (by omega)]
  unfold cnt
  rw [show (32 : Nat) = 8 + (8 + (8 + 8)) from rfl, cntN_add, cntN_add, cntN_add]
  simp only [Nat.zero_add, Nat.reduceAdd]
  congr 1
  omega

/-! ## elements -/
theorem llen_nonneg {α : Type} (l : List α) : 0 ≤ llen l := by unfold llen; omega
def el {α : Type} [Inhabited α] (l : List α) (i : Int) : α := (idx l i).getD default

theorem idx_el {α : Type} [Inhabited α] {l : List α} {i : Int} (h0 : 0 ≤ i) (h1 : i < llen l) : idx l i = some (el l i) := by
  obtain ⟨x, hx, _⟩ := idx_get h0 h1
  rw [hx]; simp [el, hx]

theorem el_mem {α : Type} [Inhabited α] {l : List α} {i : Int} (h0 : 0 ≤ i) (h1 : i < llen l) : el l i ∈ l := by
  obtain ⟨x, hx, hm⟩ := idx_get h0 h1
  simpa [el, hx] using hm

theorem idx_some_iff {α : Type} {l : List α} {i : Int} {x : α} (h : idx l i = some x) : 0 ≤ i ∧ i < llen l ∧ x ∈ l := by
  unfold idx at h
  split at h
  · rename_i h0
    obtain ⟨hl, he⟩ := List.getElem?_eq_some_iff.1 h
    exact ⟨h0, by unfold llen; omega, by rw [← he]; exact List.getElem_mem hl⟩
  · cases h

theorem mem_idx {α : Type} {l : List α} {x : α} (h : x ∈ l) : ∃ i, idx l i = some x := by
  obtain ⟨k, hk⟩ := List.mem_iff_getElem?.1 h
  exact ⟨(k : Int), by unfold idx; simp [hk]⟩

/-- a loop over a list that ends at the first element that is not good -/
theorem iter_allP {α A : Type} {l : List α} {bad no yes : A} {f : Int → Step Int A} (Good : Int → α → Prop) (hlen : l.length ≤ maxLen)
    (hf : ∀ i x, 0 ≤ i → i < llen l → idx l i = some x → (Good i x ∧ f i = .next (wr .i64 (i + 1))) ∨ (¬ Good i x ∧ f i = .done no)) (hend : ∀ i, ¬ i < llen l → f i = .done yes) :
    ∃ b : Bool, iter bad f lots 0 = cnd b yes no ∧ (b = true ↔ ∀ i x, idx l i = some x → Good i x) := by
  have hm : llen l ≤ 9223372036854775807 := by unfold llen; unfold maxLen at hlen; omega
  refine iter_ind (fun i => 0 ≤ i ∧ i ≤ llen l ∧ ∀ j x, j < i → idx l j = some x → Good j x) (fun i => (llen l - i).toNat) (fun a => ∃ b : Bool, a = cnd b yes no ∧ (b = true ↔ ∀ i x, idx l i = some x → Good i x)) ?_ lots 0 ⟨by omega, llen_nonneg l, fun j x hj hx => ?_⟩ (by rw [lots_eq]; omega)
  · rintro i ⟨h0, h1, h2⟩
    by_cases hi : i < llen l
    · obtain ⟨x, hx, _⟩ := idx_get h0 hi
      rcases hf i x h0 hi hx with ⟨hg, he⟩ | ⟨hg, he⟩
      · rw [he, wr_i64 _ (by omega) (by omega)]
        refine ⟨⟨by omega, by omega, fun j y hj hy => ?_⟩, (by show (llen l - (i + 1)).toNat < (llen l - i).toNat; omega)⟩
        by_cases e : j = i
        · subst e; rw [hx] at hy; cases hy; exact hg
        · exact h2 j y (by omega) hy
      · rw [he]
        exact ⟨false, rfl, fun h => (by cases h), fun h => absurd (h i x hx) hg⟩
    · rw [hend i hi]
      exact ⟨true, rfl, fun _ j y hy => h2 j y (by have := (idx_some_iff hy).2.1; omega) hy, fun _ => rfl⟩
  · have := (idx_some_iff hx).1
    omega


theorem fits_u32 {n : Int} (h : Fits (.int .u32) n) : U32ok n := h
theorem maxLen_i64 {α : Type} {l : List α} (h : l.length ≤ maxLen) : llen l ≤ 9223372036854775807 := by unfold llen; unfold maxLen at h; omega

/-- as iter_allP, with something that is gathered -/
theorem iter_accP {α σ A : Type} {l : List α} {bad no : A} {fin : σ → A} {f : σ × Int → Step (σ × Int) A} (Good : Int → α → Prop) (nx : σ → α → σ) (I : σ → Prop) {s0 : σ} (hI0 : I s0) (hlen : l.length ≤ maxLen)
    (hf : ∀ s i x, I s → 0 ≤ i → i < llen l → idx l i = some x → (Good i x ∧ f (s, i) = .next (nx s x, wr .i64 (i + 1)) ∧ I (nx s x)) ∨ (¬ Good i x ∧ f (s, i) = .done no)) (hend : ∀ s i, I s → ¬ i < llen l → f (s, i) = .done (fin s)) :
    ∃ b : Bool, iter bad f lots (s0, 0) = cnd b (fin (l.foldl nx s0)) no ∧ (b = true ↔ ∀ i x, idx l i = some x → Good i x) := by
  have hm : llen l ≤ 9223372036854775807 := by unfold llen; unfold maxLen at hlen; omega
  refine iter_ind (fun s => 0 ≤ s.2 ∧ s.2 ≤ llen l ∧ I s.1 ∧ s.1 = (l.take s.2.toNat).foldl nx s0 ∧ ∀ j x, j < s.2 → idx l j = some x → Good j x) (fun s => (llen l - s.2).toNat) (fun a => ∃ b : Bool, a = cnd b (fin (l.foldl nx s0)) no ∧ (b = true ↔ ∀ i x, idx l i = some x → Good i x)) ?_ lots (s0, 0) ⟨by simp, llen_nonneg l, hI0, by simp, fun j x hj hx => ?_⟩ (by rw [lots_eq]; simp only; omega)
  · rintro ⟨s, i⟩ ⟨h0, h1, hI, hs, h2⟩
    simp only at h0 h1 hI hs h2
    by_cases hi : i < llen l
    · obtain ⟨x, hx, _⟩ := idx_get h0 hi
      rcases hf s i x hI h0 hi hx with ⟨hg, he, hI'⟩ | ⟨hg, he⟩
      · rw [he, wr_i64 _ (by omega) (by omega)]
        refine ⟨⟨by simp only; omega, by simp only; omega, hI', ?_, fun j y hj hy => ?_⟩, (by show (llen l - (i + 1)).toNat < (llen l - i).toNat; omega)⟩
        · show nx s x = (l.take (i + 1).toNat).foldl nx s0
          have hl : i.toNat < l.length := by unfold llen at hi; omega
          have hx' : l[i.toNat]? = some x := by
            have := hx
            unfold idx at this
            rwa [if_pos h0] at this
          rw [show (i + 1).toNat = i.toNat + 1 by omega, List.take_add_one, hx', List.foldl_append, ← hs]
          rfl
        · simp only at hj
          by_cases e : j = i
          · subst e; rw [hx] at hy; cases hy; exact hg
          · exact h2 j y (by omega) hy
      · rw [he]
        exact ⟨false, rfl, fun h => (by cases h), fun h => absurd (h i x hx) hg⟩
    · rw [hend s i hI hi]
      refine ⟨true, ?_, fun _ j y hy => h2 j y (by have := (idx_some_iff hy).2.1; omega) hy, fun _ => rfl⟩
      show fin s = fin (l.foldl nx s0)
      rw [hs, List.take_of_length_le (by unfold llen at hi; omega)]
  · simp only at hj
    have := (idx_some_iff hx).1
    omega

/-! ## bit by bit -/
def clr (x k : Int) : Int := bitop .andNot .u32 x ((2 ^ k.toNat : Nat) : Int)

theorem clr_spec {x : Int} (hx : U32ok x) {k : Int} (h0 : 0 ≤ k) (h1 : k ≤ 31) : U32ok (clr x k) ∧ ∀ j, bitI (clr x k) j = (bitI x j && !decide (k = j)) := by
  refine ⟨andNot_ok hx (pow_ok h0 h1), fun j => ?_⟩
  unfold clr
  rw [bit_andNot hx (pow_ok h0 h1), bit_pow h0]

theorem clr_lt {x : Int} (hx : U32ok x) {k : Int} (h0 : 0 ≤ k) (h1 : k ≤ 31) (hb : bitI x k = true) : (clr x k).toNat < x.toNat := by
  have hle : (clr x k).toNat ≤ x.toNat := by
    unfold clr
    rw [andNot_u32 hx (pow_ok h0 h1), Int.toNat_natCast]
    exact Nat.and_le_left
  refine Nat.lt_of_le_of_ne hle fun e => ?_
  have h2 := (clr_spec hx h0 h1).2 k
  have : bitI (clr x k) k = bitI x k := by unfold bitI; rw [e]
  rw [this, hb] at h2
  simp at h2

theorem lots_u32 {x : Int} (hx : U32ok x) : x.toNat < lots := by
  have := natlt hx
  rw [lots_eq]
  have : (2 : Nat) ^ 32 = 4294967296 := by decide
  omega

theorem iter_bits {A : Type} {bad no yes : A} {f : Int → Step Int A} {x0 : Int} (h0 : U32ok x0) (Good : Int → Prop)
    (hf : ∀ x, U32ok x → x ≠ 0 → (∀ i, bitI x i = true → bitI x0 i = true) → 0 ≤ low x → low x ≤ 31 → bitI x0 (low x) = true → (Good (low x) ∧ f x = .next (clr x (low x))) ∨ (¬ Good (low x) ∧ f x = .done no)) (hend : f 0 = .done yes) :
    ∃ b : Bool, iter bad f lots x0 = cnd b yes no ∧ (b = true ↔ ∀ k, bitI x0 k = true → Good k) := by
  refine iter_ind (fun x => U32ok x ∧ (∀ i, bitI x i = true → bitI x0 i = true) ∧ ∀ k, bitI x0 k = true → bitI x k = false → Good k) (fun x => x.toNat) (fun a => ∃ b : Bool, a = cnd b yes no ∧ (b = true ↔ ∀ k, bitI x0 k = true → Good k)) ?_ lots x0 ⟨h0, fun _ h => h, fun k h1 h2 => by rw [h1] at h2; cases h2⟩ (lots_u32 h0)
  rintro x ⟨hx, hs, hg⟩
  by_cases hz : x = 0
  · subst hz
    rw [hend]
    exact ⟨true, rfl, fun _ k hk => hg k hk (bit_zero k), fun _ => rfl⟩
  · obtain ⟨l0, l1, l2, l3⟩ := low_spec hx hz
    have c := clr_spec hx l0 (by omega)
    rcases hf x hx hz hs l0 (by omega) (hs _ l2) with ⟨g, e⟩ | ⟨g, e⟩
    · rw [e]
      refine ⟨⟨c.1, fun i hi => hs i ?_, fun k hk hb => ?_⟩, clr_lt hx l0 (by omega) l2⟩
      · rw [c.2] at hi
        simp only [Bool.and_eq_true] at hi
        exact hi.1
      · rw [c.2] at hb
        by_cases hkk : low x = k
        · subst hkk; exact g
        · refine hg k hk ?_
          simpa [hkk] using hb
    · rw [e]
      exact ⟨false, rfl, fun h => (by cases h), fun h => absurd (h _ (hs _ l2)) g⟩

/-- with the greatest that is gathered -/
theorem iter_bitsMax {A : Type} {bad : A} {fin : Int → A} {f : Int × Int → Step (Int × Int) A} {x0 m0 : Int} (h0 : U32ok x0) (val : Int → Int)
    (hf : ∀ m x, U32ok x → x ≠ 0 → 0 ≤ low x → low x ≤ 31 → bitI x0 (low x) = true → f (m, x) = .next (gmax m (val (low x)), clr x (low x))) (hend : ∀ m, f (m, 0) = .done (fin m)) :
    ∃ m, iter bad f lots (m0, x0) = fin m ∧ m0 ≤ m ∧ (∀ k, bitI x0 k = true → val k ≤ m) ∧ (m = m0 ∨ ∃ k, bitI x0 k = true ∧ m = val k) := by
  refine iter_ind (fun s => U32ok s.2 ∧ (∀ i, bitI s.2 i = true → bitI x0 i = true) ∧ m0 ≤ s.1 ∧ (∀ k, bitI x0 k = true → bitI s.2 k = false → val k ≤ s.1) ∧ (s.1 = m0 ∨ ∃ k, bitI x0 k = true ∧ s.1 = val k)) (fun s => s.2.toNat)
    (fun a => ∃ m, a = fin m ∧ m0 ≤ m ∧ (∀ k, bitI x0 k = true → val k ≤ m) ∧ (m = m0 ∨ ∃ k, bitI x0 k = true ∧ m = val k)) ?_ lots (m0, x0) ⟨h0, fun _ h => h, Int.le_refl _, (fun k h1 h2 => by have h2' : bitI x0 k = false := h2; rw [h1] at h2'; cases h2'), .inl rfl⟩ (lots_u32 h0)
  rintro ⟨m, x⟩ ⟨hx, hs, hm, hg, hv⟩
  simp only at hx hs hm hg hv
  by_cases hz : x = 0
  · subst hz
    rw [hend]
    exact ⟨m, rfl, hm, fun k hk => hg k hk (bit_zero k), hv⟩
  · obtain ⟨l0, l1, l2, l3⟩ := low_spec hx hz
    have c := clr_spec hx l0 (by omega)
    rw [hf m x hx hz l0 (by omega) (hs _ l2), gmax_eq]
    refine ⟨⟨c.1, fun i hi => hs i ?_, by simp only; omega, fun k hk hb => ?_, ?_⟩, clr_lt hx l0 (by omega) l2⟩
    · simp only at hi
      rw [c.2] at hi
      simp only [Bool.and_eq_true] at hi
      exact hi.1
    · simp only at hb ⊢
      rw [c.2] at hb
      by_cases hkk : low x = k
      · subst hkk; omega
      · have := hg k hk (by simpa [hkk] using hb)
        omega
    · simp only
      by_cases hle : val (low x) ≤ m
      · rw [Int.max_eq_left hle]; exact hv
      · rw [Int.max_eq_right (by omega)]; exact .inr ⟨_, hs _ l2, rfl⟩

/-! ## the same, to be laid under a goal -/
theorem iter_allQ {α A : Type} {l : List α} {bad : A} {f : Int → Step Int A} (P : A → Prop) (Good : Int → α → Prop) (no yes : A) (hlen : l.length ≤ maxLen)
    (hf : ∀ i x, 0 ≤ i → i < llen l → idx l i = some x → (Good i x ∧ f i = .next (wr .i64 (i + 1))) ∨ (¬ Good i x ∧ f i = .done no)) (hend : ∀ i, ¬ i < llen l → f i = .done yes)
    (hy : (∀ i x, idx l i = some x → Good i x) → P yes) (hn : ¬ (∀ i x, idx l i = some x → Good i x) → P no) : P (iter bad f lots 0) := by
  obtain ⟨b, h1, h2⟩ := iter_allP Good hlen hf hend
  rw [h1]
  cases b with
  | true => exact hy (h2.1 rfl)
  | false => exact hn fun h => by have := h2.2 h; cases this

theorem iter_accQ {α σ A : Type} {l : List α} {bad : A} {f : σ × Int → Step (σ × Int) A} (P : A → Prop) (Good : Int → α → Prop) (nx : σ → α → σ) (I : σ → Prop) (fin : σ → A) (no : A) {s0 : σ} (hI0 : I s0) (hlen : l.length ≤ maxLen)
    (hf : ∀ s i x, I s → 0 ≤ i → i < llen l → idx l i = some x → (Good i x ∧ f (s, i) = .next (nx s x, wr .i64 (i + 1)) ∧ I (nx s x)) ∨ (¬ Good i x ∧ f (s, i) = .done no)) (hend : ∀ s i, I s → ¬ i < llen l → f (s, i) = .done (fin s))
    (hy : (∀ i x, idx l i = some x → Good i x) → P (fin (l.foldl nx s0))) (hn : ¬ (∀ i x, idx l i = some x → Good i x) → P no) : P (iter bad f lots (s0, 0)) := by
  obtain ⟨b, h1, h2⟩ := iter_accP Good nx I hI0 hlen hf hend
  rw [h1]
  cases b with
  | true => exact hy (h2.1 rfl)
  | false => exact hn fun h => by have := h2.2 h; cases this

theorem iter_bitsQ {A : Type} {bad : A} {f : Int → Step Int A} {x0 : Int} (P : A → Prop) (Good : Int → Prop) (no yes : A) (h0 : U32ok x0)
    (hf : ∀ x, U32ok x → x ≠ 0 → (∀ i, bitI x i = true → bitI x0 i = true) → 0 ≤ low x → low x ≤ 31 → bitI x0 (low x) = true → (Good (low x) ∧ f x = .next (clr x (low x))) ∨ (¬ Good (low x) ∧ f x = .done no)) (hend : f 0 = .done yes)
    (hy : (∀ k, bitI x0 k = true → Good k) → P yes) (hn : ¬ (∀ k, bitI x0 k = true → Good k) → P no) : P (iter bad f lots x0) := by
  obtain ⟨b, h1, h2⟩ := iter_bits h0 Good hf hend
  rw [h1]
  cases b with
  | true => exact hy (h2.1 rfl)
  | false => exact hn fun h => by have := h2.2 h; cases this

theorem iter_bitsMaxQ {A : Type} {bad : A} {f : Int × Int → Step (Int × Int) A} {x0 m0 : Int} (P : A → Prop) (val : Int → Int) (fin : Int → A) (h0 : U32ok x0)
    (hf : ∀ m x, U32ok x → x ≠ 0 → 0 ≤ low x → low x ≤ 31 → bitI x0 (low x) = true → f (m, x) = .next (gmax m (val (low x)), clr x (low x))) (hend : ∀ m, f (m, 0) = .done (fin m))
    (hp : ∀ m, m0 ≤ m → (∀ k, bitI x0 k = true → val k ≤ m) → (m = m0 ∨ ∃ k, bitI x0 k = true ∧ m = val k) → P (fin m)) : P (iter bad f lots (m0, x0)) := by
  obtain ⟨m, h1, h2, h3, h4⟩ := iter_bitsMax h0 val hf hend
  rw [h1]; exact hp m h2 h3 h4

end Go.Den
namespace Go.Den
open Go.RowKit

/-! # Lists that are written -/
theorem idx_nat {α : Type} {l : List α} {i : Int} (h : 0 ≤ i) : idx l i = l[i.toNat]? := by unfold idx; rw [if_pos h]
theorem llen_lset {α : Type} (l : List α) (i : Int) (x : α) : llen (lset l i x) = llen l := by unfold llen lset; rw [List.length_set]
theorem idx_lset {α : Type} {l : List α} {i : Int} (h0 : 0 ≤ i) (h1 : i < llen l) (x : α) (j : Int) : idx (lset l i x) j = if j = i then some x else idx l j := by
  by_cases hj : 0 ≤ j
  · rw [idx_nat hj, idx_nat hj]
    unfold lset
    rw [List.getElem?_set]
    by_cases e : j = i
    · subst e; rw [if_pos rfl, if_pos rfl, if_pos (by unfold llen at h1; omega)]
    · rw [if_neg e, if_neg (by omega)]
  · have hn : ∀ l : List α, idx l j = none := fun l => by unfold idx; rw [if_neg hj]
    rw [hn, hn, if_neg (by omega)]
theorem llen_lrep {α : Type} {n : Int} (h : 0 ≤ n) (x : α) : llen (lrep n x) = n := by unfold llen lrep; rw [List.length_replicate]; omega
theorem idx_lrep {α : Type} {n j : Int} (h0 : 0 ≤ j) (h1 : j < n) (x : α) : idx (lrep n x) j = some x := by
  rw [idx_nat h0]; unfold lrep; rw [List.getElem?_replicate, if_pos (by omega)]
theorem idx_out {α : Type} {l : List α} {j : Int} (h : ¬ (0 ≤ j ∧ j < llen l)) : idx l j = none := by
  unfold idx
  split
  · rename_i h0
    rw [List.getElem?_eq_none_iff]; unfold llen at h; omega
  · rfl
theorem idx_ext {α : Type} {l m : List α} (h : llen l = llen m) (e : ∀ j, 0 ≤ j → j < llen l → idx l j = idx m j) : l = m := by
  refine List.ext_getElem? fun k => ?_
  by_cases hk : k < l.length
  · have := e (k : Int) (by omega) (by unfold llen; omega)
    rwa [idx_nat (by omega), idx_nat (by omega), Int.toNat_natCast] at this
  · rw [List.getElem?_eq_none_iff.2 (by omega), List.getElem?_eq_none_iff.2 (by unfold llen at h; omega)]
theorem idx_append {α : Type} {l m : List α} {j : Int} (h0 : 0 ≤ j) : idx (l ++ m) j = if j < llen l then idx l j else idx m (j - llen l) := by
  split
  · rename_i h
    rw [idx_nat h0, idx_nat h0, List.getElem?_append_left (by unfold llen at h; omega)]
  · rename_i h
    have h2 : 0 ≤ j - llen l := by omega
    rw [idx_nat h0, idx_nat h2, List.getElem?_append_right (by unfold llen at h; omega)]
    congr 1
    unfold llen; omega
theorem idx_snoc {α : Type} {l : List α} {x : α} : idx (l ++ [x]) (llen l) = some x := by
  rw [idx_append (llen_nonneg l), if_neg (by omega), Int.sub_self]; rfl
theorem llen_snoc {α : Type} (l : List α) (x : α) : llen (l ++ (x :: [])) = llen l + 1 := by unfold llen; rw [List.length_append, List.length_singleton]; omega
theorem llen_append {α : Type} (l m : List α) : llen (l ++ m) = llen l + llen m := by unfold llen; rw [List.length_append]; omega
theorem letK_app {α A : Type} (x : α) (f : α → A) : letK x f = f x := id rfl
theorem cnd_pos {α : Type} {b : Bool} (x y : α) (h : b = true) : cnd b x y = x := by subst h; rfl
theorem cnd_neg {α : Type} {b : Bool} (x y : α) (h : b = false) : cnd b x y = y := by subst h; rfl
theorem elimO_eq {α A : Type} {o : Option α} {a : α} (bad : A) (f : α → A) (h : o = some a) : elimO o bad f = f a := by subst h; rfl
theorem pow46 : (2 : Int) ^ 46 = 70368744177664 := by decide
theorem pow47 : (2 : Int) ^ 47 = 140737488355328 := by decide
theorem room_le {n : Int} {b : Nat} (h : n * b ≤ 70368744177664) : roomOK n b = true := by
  unfold roomOK; rw [decide_eq_true_eq, pow46]; exact h
theorem make_le {n : Int} {b : Nat} (h : (b : Int) * n ≤ 140737488355328) : makeOK n b = true := by
  unfold makeOK; rw [decide_eq_true_eq, pow47]; exact h

end Go.Den
namespace Go.Den
open Go.RowKit

/-! # How many bits of a long word are set -/
theorem keep_low (x m k : Nat) : x &&& (2 ^ (2 * k) * m + (2 ^ k - 1)) = 2 ^ (2 * k) * ((x >>> (2 * k)) &&& m) + x % 2 ^ k := by
  have h1 : 2 ^ k - 1 < 2 ^ (2 * k) := Nat.lt_of_lt_of_le (Nat.sub_lt (Nat.pow_pos (by decide)) (by decide)) (Nat.pow_le_pow_right (by decide) (by omega))
  have h2 : x % 2 ^ k < 2 ^ (2 * k) := Nat.lt_of_lt_of_le (Nat.mod_lt _ (Nat.pow_pos (by decide))) (Nat.pow_le_pow_right (by decide) (by omega))
  apply Nat.eq_of_testBit_eq
  intro j
  rw [Nat.testBit_and, Nat.testBit_two_pow_mul_add _ h1, Nat.testBit_two_pow_mul_add _ h2]
  by_cases hj : j < 2 * k
  · rw [if_pos hj, if_pos hj, Nat.testBit_two_pow_sub_one, Nat.testBit_mod_two_pow, Bool.and_comm]
  · rw [if_neg hj, if_neg hj, Nat.testBit_and, Nat.testBit_shiftRight]
    congr 2
    omega

/-- neighbours of k bits each, together -/
def pairs (k : Nat) : Nat → Nat → Nat
  | 0, _ => 0
  | n + 1, x => (x % 2 ^ k + x / 2 ^ k % 2 ^ k) + 2 ^ (2 * k) * pairs k n (x / 2 ^ (2 * k))
def maskK (k : Nat) : Nat → Nat
  | 0 => 0
  | n + 1 => 2 ^ (2 * k) * maskK k n + (2 ^ k - 1)

theorem pairs_mask (k : Nat) : ∀ n x, ((x >>> k) &&& maskK k n) + (x &&& maskK k n) = pairs k n x
  | 0, x => by simp [maskK, pairs]
  | n + 1, x => by
    have ih := pairs_mask k n (x / 2 ^ (2 * k))
    rw [maskK, keep_low, keep_low, pairs, ← ih, Nat.mul_add]
    have e : (x >>> k) >>> (2 * k) = (x / 2 ^ (2 * k)) >>> k := by
      rw [← Nat.shiftRight_eq_div_pow, ← Nat.shiftRight_add, ← Nat.shiftRight_add, Nat.add_comm]
    rw [e, Nat.shiftRight_eq_div_pow x (2 * k), Nat.shiftRight_eq_div_pow x k]
    omega

/-- the same where nothing is carried -/
theorem sum_mask : ∀ n x, (∀ i, x / 16 ^ i % 16 ≤ 4) → ((x >>> 4) + x) &&& maskK 4 n = pairs 4 n x
  | 0, x, _ => by simp [maskK, pairs]
  | n + 1, x, h => by
    have h0 := h 0
    have h1 := h 1
    have h2 := h 2
    have ih := sum_mask n (x / 256) (fun i => by
      have := h (i + 2)
      rwa [show 16 ^ (i + 2) = 256 * 16 ^ i by rw [Nat.pow_add, Nat.mul_comm], ← Nat.div_div_eq_div_mul] at this)
    rw [maskK, keep_low, pairs, ← ih]
    simp only [Nat.pow_zero, Nat.div_one, Nat.pow_one, Nat.shiftRight_eq_div_pow, Nat.reducePow, Nat.reduceMul] at *
    have e16 : x / 16 / 16 = x / 256 := by omega
    have q : x / 16 + x = (x % 16 + x / 16 % 16) + 16 * (x / 16 % 16 + x / 256 % 16) + 256 * (x / 256 / 16 + x / 256) := by omega
    have e : (x / 16 + x) / 256 = x / 256 / 16 + x / 256 := by omega
    rw [e]
    omega



/-- byte by byte -/
theorem pairs1_byte (n x : Nat) : pairs 1 (n + 4) x = pairs 1 4 (x % 256) + 256 * pairs 1 n (x / 256) := by
  have e : x / 4 / 4 / 4 / 4 = x / 256 := by omega
  simp only [pairs, Nat.reducePow, Nat.reduceMul, e]
  omega
theorem pairs2_byte (n x : Nat) : pairs 2 (n + 2) x = pairs 2 2 (x % 256) + 256 * pairs 2 n (x / 256) := by
  have e : x / 16 / 16 = x / 256 := by omega
  simp only [pairs, Nat.reducePow, Nat.reduceMul, e]
  omega
theorem pairs4_byte (n x : Nat) : pairs 4 (n + 1) x = pairs 4 1 (x % 256) + 256 * pairs 4 n (x / 256) := by
  simp only [pairs, Nat.reducePow, Nat.reduceMul]
  omega

def bytesT (n x : Nat) : Nat := pairs 4 n (pairs 2 (2 * n) (pairs 1 (4 * n) x))

theorem byte1 : ∀ y : Fin 256, pairs 1 4 y.val < 256 ∧ pairs 2 2 (pairs 1 4 y.val) < 256 ∧ bytesT 1 y.val = cntN y.val 0 8 ∧ pairs 2 2 (pairs 1 4 y.val) % 16 ≤ 4 ∧ pairs 2 2 (pairs 1 4 y.val) / 16 ≤ 4 := by decide +kernel

theorem byte1' {y : Nat} (h : y < 256) : pairs 1 4 y < 256 ∧ pairs 2 2 (pairs 1 4 y) < 256 ∧ bytesT 1 y = cntN y 0 8 ∧ pairs 2 2 (pairs 1 4 y) % 16 ≤ 4 ∧ pairs 2 2 (pairs 1 4 y) / 16 ≤ 4 := byte1 ⟨y, h⟩

theorem two_byte (n x : Nat) : pairs 2 (2 * (n + 1)) (pairs 1 (4 * (n + 1)) x) = pairs 2 2 (pairs 1 4 (x % 256)) + 256 * pairs 2 (2 * n) (pairs 1 (4 * n) (x / 256)) := by
  have h := byte1' (Nat.mod_lt x (by decide : 0 < 256))
  rw [show 4 * (n + 1) = 4 * n + 4 by omega, show 2 * (n + 1) = 2 * n + 2 by omega, pairs1_byte, pairs2_byte]
  congr 2
  · congr 1; omega
  · congr 1; omega

theorem bytesT_byte (n x : Nat) : bytesT (n + 1) x = cntN (x % 256) 0 8 + 256 * bytesT n (x / 256) := by
  have h := byte1' (Nat.mod_lt x (by decide : 0 < 256))
  unfold bytesT
  rw [two_byte, pairs4_byte, ← h.2.2.1]
  show _ = pairs 4 1 (pairs 2 2 (pairs 1 4 (x % 256))) + 256 * pairs 4 n (pairs 2 (2 * n) (pairs 1 (4 * n) (x / 256)))
  congr 2
  · congr 1; omega
  · congr 1; omega

theorem nibbles : ∀ (n x i : Nat), (pairs 2 (2 * n) (pairs 1 (4 * n) x)) / 16 ^ i % 16 ≤ 4
  | 0, x, i => by simp [pairs]
  | n + 1, x, i => by
    have h := byte1' (Nat.mod_lt x (by decide : 0 < 256))
    rw [two_byte]
    match i with
    | 0 => simp only [Nat.pow_zero, Nat.div_one]; omega
    | 1 => simp only [Nat.pow_one]; omega
    | i + 2 =>
      have ih := nibbles n (x / 256) i
      rw [show 16 ^ (i + 2) = 256 * 16 ^ i by rw [Nat.pow_add, Nat.mul_comm], ← Nat.div_div_eq_div_mul]
      rw [show (pairs 2 2 (pairs 1 4 (x % 256)) + 256 * pairs 2 (2 * n) (pairs 1 (4 * n) (x / 256))) / 256 = pairs 2 (2 * n) (pairs 1 (4 * n) (x / 256)) by omega]
      exact ih

theorem cntN_byte (x n : Nat) : cntN x 0 (8 + n) = cntN (x % 256) 0 8 + cntN (x / 256) 0 n := by
  rw [cntN_add]
  congr 1
  · unfold cntN
    congr 1
    refine List.filter_congr fun i hi => ?_
    have hi : i < 8 := by simpa using hi
    rw [show (256 : Nat) = 2 ^ 8 from rfl, Nat.testBit_mod_two_pow]
    simp [hi]
  · unfold cntN
    congr 1
    refine List.filter_congr fun i _ => ?_
    rw [show (256 : Nat) = 2 ^ 8 from rfl, ← Nat.shiftRight_eq_div_pow, Nat.testBit_shiftRight]
    congr 1
    omega

/-- the three first steps of the parallel sum -/
def swar (x : Nat) : Nat :=
  let y := ((x >>> 1) &&& 6148914691236517205) + (x &&& 6148914691236517205)
  let z := ((y >>> 2) &&& 3689348814741910323) + (y &&& 3689348814741910323)
  ((z >>> 4) + z) &&& 1085102592571150095

theorem swar_eq (x : Nat) : swar x = bytesT 8 x := by
  unfold swar bytesT
  have e1 : (6148914691236517205 : Nat) = maskK 1 32 := by decide +kernel
  have e2 : (3689348814741910323 : Nat) = maskK 2 16 := by decide +kernel
  have e4 : (1085102592571150095 : Nat) = maskK 4 8 := by decide +kernel
  simp only [e1, e2, e4]
  rw [pairs_mask, pairs_mask]
  exact sum_mask 8 _ (nibbles 8 x)

def cnt64 (x : Int) : Int := cntN x.toNat 0 64

theorem swar_sum (x : Nat) : ∃ s0 s1 s2 s3 s4 s5 s6 s7 : Nat, (s0 ≤ 8 ∧ s1 ≤ 8 ∧ s2 ≤ 8 ∧ s3 ≤ 8) ∧ (s4 ≤ 8 ∧ s5 ≤ 8 ∧ s6 ≤ 8 ∧ s7 ≤ 8) ∧ swar x = s0 + 256 * (s1 + 256 * (s2 + 256 * (s3 + 256 * (s4 + 256 * (s5 + 256 * (s6 + 256 * s7)))))) ∧ cntN x 0 64 = s0 + (s1 + (s2 + (s3 + (s4 + (s5 + (s6 + s7)))))) := by
  have h8 : cntN x 0 64 = cntN x 0 (8 + (8 + (8 + (8 + (8 + (8 + (8 + (8 + 0)))))))) := rfl
  rw [h8, swar_eq]
  simp only [cntN_byte, bytesT_byte]
  refine ⟨cntN (x % 256) 0 8, cntN (x / 256 % 256) 0 8, cntN (x / 256 / 256 % 256) 0 8, cntN (x / 256 / 256 / 256 % 256) 0 8, cntN (x / 256 / 256 / 256 / 256 % 256) 0 8, cntN (x / 256 / 256 / 256 / 256 / 256 % 256) 0 8, cntN (x / 256 / 256 / 256 / 256 / 256 / 256 % 256) 0 8, cntN (x / 256 / 256 / 256 / 256 / 256 / 256 / 256 % 256) 0 8, ⟨cntN_le _ _ _, cntN_le _ _ _, cntN_le _ _ _, cntN_le _ _ _⟩, ⟨cntN_le _ _ _, cntN_le _ _ _, cntN_le _ _ _, cntN_le _ _ _⟩, ?_, ?_⟩
  · simp only [bytesT, pairs, Nat.mul_zero, Nat.add_zero]
  · rfl

end Go.Den
namespace Go.Den
open Go.RowKit

/-! # Long words, plainly -/
def U64ok (x : Int) : Prop := 0 ≤ x ∧ x ≤ 18446744073709551615

theorem wrap_u64 (n : Int) : IntKind.u64.wrap n = n % 18446744073709551616 := by
  unfold IntKind.wrap
  simp [IntKind.signed, IntKind.bits]
theorem two64 : ((2 ^ 64 : Nat) : Int) = 18446744073709551616 := by decide
theorem two64n : (2 ^ 64 : Nat) = 18446744073709551616 := by decide
theorem toNat_ofInt64 {x : Int} (h : U64ok x) : (BitVec.ofInt 64 x).toNat = x.toNat := by
  rw [BitVec.toNat_ofInt, two64, Int.emod_eq_of_lt h.1 (by have := h.2; omega)]
theorem natlt64 {x : Int} (h : U64ok x) : x.toNat < 2 ^ 64 := by
  have := h.1; have := h.2; rw [two64n]; omega
theorem u64_of {n : Nat} (h : n < 2 ^ 64) : U64ok (n : Int) := by
  rw [two64n] at h; exact ⟨by omega, by omega⟩
theorem u64_nat {x : Int} (h : U64ok x) : ∃ n : Nat, x = n ∧ n < 2 ^ 64 := ⟨x.toNat, (Int.toNat_of_nonneg h.1).symm, natlt64 h⟩
theorem wr_u64n {n : Nat} (h : n < 2 ^ 64) : wr .u64 (n : Int) = n := by
  have := (u64_of h)
  show IntKind.u64.wrap _ = _
  rw [wrap_u64, Int.emod_eq_of_lt this.1 (by have := this.2; omega)]
theorem and_u64 {x y : Nat} (hx : x < 2 ^ 64) (hy : y < 2 ^ 64) : bitop .and .u64 (x : Int) (y : Int) = ((x &&& y : Nat) : Int) := by
  show IntKind.u64.wrap ((BitVec.ofInt 64 x &&& BitVec.ofInt 64 y).toNat : Int) = _
  rw [BitVec.toNat_and, toNat_ofInt64 (u64_of hx), toNat_ofInt64 (u64_of hy)]
  exact wr_u64n (Nat.and_lt_two_pow _ hy)
theorem or_u64 {x y : Nat} (hx : x < 2 ^ 64) (hy : y < 2 ^ 64) : bitop .or .u64 (x : Int) (y : Int) = ((x ||| y : Nat) : Int) := by
  show IntKind.u64.wrap ((BitVec.ofInt 64 x ||| BitVec.ofInt 64 y).toNat : Int) = _
  rw [BitVec.toNat_or, toNat_ofInt64 (u64_of hx), toNat_ofInt64 (u64_of hy)]
  exact wr_u64n (Nat.or_lt_two_pow hx hy)
theorem shr_u64 (x : Nat) (n : Nat) (hn : n ≤ 63) : shrop .u64 (x : Int) n = ((x >>> n : Nat) : Int) := by
  unfold shrop
  rw [show min ((n : Int)).toNat IntKind.u64.bits = n by simp only [IntKind.bits]; omega]
  have hp : (0 : Int) < 2 ^ n := Int.pow_pos (by decide)
  rw [Int.fdiv_eq_ediv_of_nonneg _ (Int.le_of_lt hp), Nat.shiftRight_eq_div_pow]
  simp
theorem shl1_u64 {x : Nat} (_ : x < 2 ^ 64) : shlop .u64 (x : Int) 1 = ((2 * x % 2 ^ 64 : Nat) : Int) := by
  unfold shlop
  rw [show min ((1 : Int)).toNat IntKind.u64.bits = 1 by simp only [IntKind.bits]; omega, wrap_u64]
  rw [two64n]; omega

/-! ## the sum of bits, as the library has it -/
def oc1 (x : Int) : Int := wr .u64 (bitop .and .u64 (shrop .u64 x 1) 6148914691236517205 + bitop .and .u64 x 6148914691236517205)
def oc2 (x : Int) : Int := wr .u64 (bitop .and .u64 (shrop .u64 x 2) 3689348814741910323 + bitop .and .u64 x 3689348814741910323)
def oc3 (x : Int) : Int := bitop .and .u64 (wr .u64 (shrop .u64 x 4 + x)) 1085102592571150095
def oc4 (x : Int) : Int := wr .u64 (x + shrop .u64 x 8)
def oc5 (x : Int) : Int := wr .u64 (x + shrop .u64 x 16)
def oc6 (x : Int) : Int := wr .u64 (x + shrop .u64 x 32)
def oc64 (x : Int) : Int := bitop .and .i64 (wr .i64 (oc6 (oc5 (oc4 (oc3 (oc2 (oc1 x))))))) 127

theorem sum8 {s0 s1 s2 s3 s4 s5 s6 s7 S : Nat} (h0 : s0 ≤ 8 ∧ s1 ≤ 8 ∧ s2 ≤ 8 ∧ s3 ≤ 8) (h4 : s4 ≤ 8 ∧ s5 ≤ 8 ∧ s6 ≤ 8 ∧ s7 ≤ 8) (h : S = s0 + 256 * (s1 + 256 * (s2 + 256 * (s3 + 256 * (s4 + 256 * (s5 + 256 * (s6 + 256 * s7))))))) :
    ∃ a b c : Nat, a = S + S >>> 8 ∧ b = a + a >>> 16 ∧ c = b + b >>> 32 ∧ S < 2 ^ 62 ∧ a < 2 ^ 62 ∧ b < 2 ^ 62 ∧ c < 2 ^ 62 ∧ c % 128 = s0 + (s1 + (s2 + (s3 + (s4 + (s5 + (s6 + s7)))))) := by
  obtain ⟨t7, e7⟩ : ∃ t, t = s7 := ⟨_, rfl⟩
  obtain ⟨t6, e6⟩ : ∃ t, t = s6 + 256 * t7 := ⟨_, rfl⟩
  obtain ⟨t5, e5⟩ : ∃ t, t = s5 + 256 * t6 := ⟨_, rfl⟩
  obtain ⟨t4, e4⟩ : ∃ t, t = s4 + 256 * t5 := ⟨_, rfl⟩
  obtain ⟨t3, e3⟩ : ∃ t, t = s3 + 256 * t4 := ⟨_, rfl⟩
  obtain ⟨t2, e2⟩ : ∃ t, t = s2 + 256 * t3 := ⟨_, rfl⟩
  obtain ⟨t1, e1⟩ : ∃ t, t = s1 + 256 * t2 := ⟨_, rfl⟩
  have hS : S = s0 + 256 * t1 := by rw [h, e1, e2, e3, e4, e5, e6, e7]
  have p62 : (2 : Nat) ^ 62 = 4611686018427387904 := by decide
  have q8 : S >>> 8 = t1 := by rw [Nat.shiftRight_eq_div_pow]; omega
  have b7 : t7 ≤ 8 := by omega
  have b6 : t6 ≤ 8 + 256 * 8 := by omega
  have b5 : t5 ≤ 8 + 256 * 8 + 65536 * 8 := by omega
  have b4 : t4 ≤ 8 + 256 * 8 + 65536 * 8 + 16777216 * 8 := by omega
  have b3 : t3 ≤ 40000000000 := by omega
  have b2 : t2 ≤ 11000000000000 := by omega
  have b1 : t1 ≤ 3000000000000000 := by omega
  have q16 : (S + t1) >>> 16 = t2 + t3 := by rw [Nat.shiftRight_eq_div_pow]; omega
  have q32 : (S + t1 + (t2 + t3)) >>> 32 = t4 + t5 + t6 + t7 := by
    rw [Nat.shiftRight_eq_div_pow]
    have : S + t1 + (t2 + t3) = (s0 + s1 + s2 + s3) + 256 * (s1 + s2 + s3 + s4) + 65536 * (s2 + s3 + s4 + s5) + 16777216 * (s3 + s4 + s5 + s6) + 4294967296 * (t4 + t5 + t6 + t7) := by omega
    omega
  refine ⟨S + t1, S + t1 + (t2 + t3), S + t1 + (t2 + t3) + (t4 + t5 + t6 + t7), by rw [q8], by rw [q16], by rw [q32], ?_, ?_, ?_, ?_, ?_⟩
  all_goals (try rw [p62]) <;> omega

theorem oc64_eq {x : Int} (hx : U64ok x) : oc64 x = cnt64 x := by
  obtain ⟨n, rfl, hn⟩ := u64_nat hx
  have m1 : (6148914691236517205 : Nat) < 2 ^ 64 := by decide
  have m2 : (3689348814741910323 : Nat) < 2 ^ 64 := by decide
  have m4 : (1085102592571150095 : Nat) < 2 ^ 64 := by decide
  have sh : ∀ (a k : Nat), a < 2 ^ 64 → a >>> k < 2 ^ 64 := fun a k h => by
    rw [Nat.shiftRight_eq_div_pow]; exact Nat.lt_of_le_of_lt (Nat.div_le_self _ _) h
  have e1 : oc1 (n : Int) = (((n >>> 1) &&& 6148914691236517205) + (n &&& 6148914691236517205) : Nat) := by
    unfold oc1
    have a1 : shrop .u64 (n : Int) 1 = _ := shr_u64 n 1 (by decide)
    rw [a1]
    have a2 : bitop .and .u64 ((n >>> 1 : Nat) : Int) 6148914691236517205 = (((n >>> 1) &&& 6148914691236517205 : Nat) : Int) := and_u64 (sh n 1 hn) m1
    have a3 : bitop .and .u64 (n : Int) 6148914691236517205 = ((n &&& 6148914691236517205 : Nat) : Int) := and_u64 hn m1
    rw [a2, a3, ← Int.natCast_add]
    refine wr_u64n ?_
    have := Nat.and_le_right (n := n >>> 1) (m := 6148914691236517205)
    have := Nat.and_le_right (n := n) (m := 6148914691236517205)
    rw [two64n]; omega
  rw [show oc64 (n : Int) = bitop .and .i64 (wr .i64 (oc6 (oc5 (oc4 (oc3 (oc2 (oc1 (n : Int)))))))) 127 from rfl, e1]
  have b1 : ((n >>> 1) &&& 6148914691236517205) + (n &&& 6148914691236517205) < 2 ^ 64 := by
    have := Nat.and_le_right (n := n >>> 1) (m := 6148914691236517205)
    have := Nat.and_le_right (n := n) (m := 6148914691236517205)
    rw [two64n]; omega
  generalize hy : ((n >>> 1) &&& 6148914691236517205) + (n &&& 6148914691236517205) = y at b1
  have b2 : ((y >>> 2) &&& 3689348814741910323) + (y &&& 3689348814741910323) ≤ 7378697629483820646 := by
    have := Nat.and_le_right (n := y >>> 2) (m := 3689348814741910323)
    have := Nat.and_le_right (n := y) (m := 3689348814741910323)
    omega
  have e2 : oc2 (y : Int) = (((y >>> 2) &&& 3689348814741910323) + (y &&& 3689348814741910323) : Nat) := by
    unfold oc2
    have a1 : shrop .u64 (y : Int) 2 = _ := shr_u64 y 2 (by decide)
    rw [a1]
    have a2 : bitop .and .u64 ((y >>> 2 : Nat) : Int) 3689348814741910323 = (((y >>> 2) &&& 3689348814741910323 : Nat) : Int) := and_u64 (sh y 2 b1) m2
    have a3 : bitop .and .u64 (y : Int) 3689348814741910323 = ((y &&& 3689348814741910323 : Nat) : Int) := and_u64 b1 m2
    rw [a2, a3, ← Int.natCast_add]
    refine wr_u64n ?_
    rw [two64n]; omega
  rw [e2]
  generalize hz : ((y >>> 2) &&& 3689348814741910323) + (y &&& 3689348814741910323) = z at b2
  have hs : (z >>> 4 + z) &&& 1085102592571150095 = swar n := by
    unfold swar; simp only [hy, hz]
  have b3 : z >>> 4 + z < 2 ^ 64 := by rw [Nat.shiftRight_eq_div_pow, two64n]; omega
  have e3 : oc3 (z : Int) = (swar n : Nat) := by
    unfold oc3
    have a1 : shrop .u64 (z : Int) 4 = _ := shr_u64 z 4 (by decide)
    rw [a1, ← Int.natCast_add, wr_u64n b3, ← hs]
    exact and_u64 b3 m4
  rw [e3]
  obtain ⟨s0, s1, s2, s3, s4, s5, s6, s7, h0, h4, hS, hc⟩ := swar_sum n
  obtain ⟨a, b, c, ea, eb, ec, lS, la, lb, lc, hm⟩ := sum8 h0 h4 hS
  have p62 : (2 : Nat) ^ 62 = 4611686018427387904 := by decide
  have lt : ∀ k : Nat, k < 2 ^ 62 → k < 2 ^ 64 := fun k hk => by rw [p62] at hk; rw [two64n]; omega
  have e4 : oc4 (swar n : Int) = (a : Nat) := by
    unfold oc4
    have a1 : shrop .u64 (swar n : Int) 8 = _ := shr_u64 (swar n) 8 (by decide)
    rw [a1, ← Int.natCast_add, ← ea]; exact wr_u64n (lt _ la)
  have e5 : oc5 (a : Int) = (b : Nat) := by
    unfold oc5
    have a1 : shrop .u64 (a : Int) 16 = _ := shr_u64 a 16 (by decide)
    rw [a1, ← Int.natCast_add, ← eb]; exact wr_u64n (lt _ lb)
  have e6 : oc6 (b : Int) = (c : Nat) := by
    unfold oc6
    have a1 : shrop .u64 (b : Int) 32 = _ := shr_u64 b 32 (by decide)
    rw [a1, ← Int.natCast_add, ← ec]; exact wr_u64n (lt _ lc)
  rw [e4, e5, e6, wr_i64 _ (by omega) (by rw [p62] at lc; omega)]
  have fin : bitop .and .i64 (c : Int) 127 = ((c &&& 127 : Nat) : Int) := by
    show IntKind.i64.wrap ((BitVec.ofInt 64 c &&& BitVec.ofInt 64 127).toNat : Int) = _
    rw [BitVec.toNat_and, toNat_ofInt64 (u64_of (lt _ lc)), toNat_ofInt64 ⟨by decide, by decide⟩]
    have h1 : (c : Int).toNat &&& (127 : Int).toNat = c &&& 127 := by rw [Int.toNat_natCast]; rfl
    rw [h1]
    have h2 := Nat.and_le_right (n := c) (m := 127)
    exact wr_i64 _ (by omega) (by omega)
  rw [fin, show (127 : Nat) = 2 ^ 7 - 1 from rfl, Nat.and_two_pow_sub_one_eq_mod]
  unfold cnt64
  rw [Int.toNat_natCast, hc]
  show ((c % 128 : Nat) : Int) = _
  rw [hm]

/-! ## shifted by one -/
theorem testBit_double (x j : Nat) (hx : x < 2 ^ 64) : (2 * x % 2 ^ 64).testBit j = (decide (1 ≤ j) && decide (j < 64) && x.testBit (j - 1)) := by
  have _ := hx
  rw [Nat.testBit_mod_two_pow]
  cases j with
  | zero => simp
  | succ j =>
    rw [show 2 * x = x <<< 1 by rw [Nat.shiftLeft_eq]; omega, Nat.testBit_shiftLeft]
    simp

theorem or_one {x : Nat} (hx : x % 2 = 0) : x ||| 1 = x + 1 := by
  apply Nat.eq_of_testBit_eq
  intro j
  rw [Nat.testBit_or]
  cases j with
  | zero => simp [hx]; omega
  | succ j =>
    simp only [Nat.testBit_succ]
    rw [show (x + 1) / 2 = x / 2 by omega]
    simp

theorem testBit_or_one (x j : Nat) : (x ||| 1).testBit j = (x.testBit j || decide (j = 0)) := by
  rw [Nat.testBit_or]
  cases j with
  | zero => simp
  | succ j => simp [Nat.testBit_succ]

/-- the two halves' bits -/
theorem cnt_halves {n : Nat} (hn : n < 2 ^ 64) : cntN (n % 4294967296) 0 32 + cntN (n / 4294967296) 0 32 = cntN n 0 64 := by
  have _ := hn
  rw [show (64 : Nat) = 32 + 32 from rfl, cntN_add]
  congr 1
  · unfold cntN
    congr 1
    refine List.filter_congr fun i hi => ?_
    have hi : i < 32 := by simpa using hi
    rw [show (4294967296 : Nat) = 2 ^ 32 from rfl, Nat.testBit_mod_two_pow]
    simp [hi]
  · unfold cntN
    congr 1
    refine List.filter_congr fun i _ => ?_
    rw [show (4294967296 : Nat) = 2 ^ 32 from rfl, ← Nat.shiftRight_eq_div_pow, Nat.testBit_shiftRight]
    congr 1
    omega

end Go.Den
namespace Go.Den
open Go.RowKit

/-! # More loops, plainly -/
def UpRound {σ A : Type} (c : σ → Int) (Inv : σ → Prop) (P : A → Prop) (k : Int) : Step σ A → Prop
  | .next s' => c s' = k + 1 ∧ Inv s'
  | .done a => P a
def EndRound {σ A : Type} (P : A → Prop) : Step σ A → Prop
  | .next _ => False
  | .done a => P a

/-- a loop that counts up to n -/
theorem iter_up {σ A : Type} {bad : A} {f : σ → Step σ A} (c : σ → Int) (n : Int) (Inv : σ → Prop) (P : A → Prop) {s0 : σ} (hn : n < 18446744073709551616) (hc0 : 0 ≤ c s0) (hcn : c s0 ≤ n) (h0 : Inv s0)
    (hstep : ∀ s, Inv s → 0 ≤ c s → c s < n → UpRound c Inv P (c s) (f s)) (hend : ∀ s, Inv s → c s = n → EndRound P (f s)) : P (iter bad f lots s0) := by
  refine iter_ind (fun s => Inv s ∧ 0 ≤ c s ∧ c s ≤ n) (fun s => (n - c s).toNat) P ?_ lots s0 ⟨h0, hc0, hcn⟩ (by rw [lots_eq]; omega)
  rintro s ⟨hI, h1, h2⟩
  by_cases h : c s < n
  · have := hstep s hI h1 h
    cases hf : f s with
    | next s' => rw [hf] at this; exact ⟨⟨this.2, by have := this.1; omega, by have := this.1; omega⟩, by have := this.1; show (n - c s').toNat < (n - c s).toNat; omega⟩
    | done a => rw [hf] at this; exact this
  · have := hend s hI (by omega)
    cases hf : f s with
    | next s' => rw [hf] at this; exact this.elim
    | done a => rw [hf] at this; exact this

/-- two lists held against each other -/
theorem same_loop {α : Type} {l m : List α} {f : Int → Step Int (Option Bool)} (E : α → α → Bool) (hE : ∀ a b, E a b = true ↔ a = b) (hlen : llen l = llen m) (hl : llen l ≤ 9223372036854775807)
    (hf : ∀ i a b, 0 ≤ i → i < llen l → idx l i = some a → idx m i = some b → f i = cnd (!(E a b)) (.done (some false)) (.next (wr .i64 (i + 1)))) (hend : ∀ i, ¬ i < llen l → f i = .done (some true)) :
    ∃ b, iter none f lots 0 = some b ∧ (b = true ↔ l = m) := by
  refine iter_up (fun i => i) (llen l) (fun i => ∀ j, 0 ≤ j → j < i → idx l j = idx m j) (fun a => ∃ b, a = some b ∧ (b = true ↔ l = m)) (by omega) (by omega) (llen_nonneg l) (fun j h0 h1 => by omega) (fun i hI i0 i1 => ?_) (fun i hI he => ?_)
  · obtain ⟨a, ha, _⟩ := idx_get i0 i1
    obtain ⟨b, hb, _⟩ := idx_get (l := m) i0 (by omega)
    rw [hf i a b i0 i1 ha hb, wr_i64 (i + 1) (by omega) (by omega)]
    cases he : E a b with
    | true =>
      refine ⟨rfl, fun j j0 j1 => ?_⟩
      by_cases e : j = i
      · rw [e, ha, hb, (hE a b).1 he]
      · exact hI j j0 (by omega)
    | false => exact ⟨false, rfl, fun h => (by cases h), fun h => by rw [h] at ha; rw [ha] at hb; cases hb; rw [(hE a a).2 rfl] at he; cases he⟩
  · rw [hend i (by omega)]
    exact ⟨true, rfl, fun _ => idx_ext hlen fun j j0 j1 => hI j j0 (by omega), fun _ => rfl⟩

/-- is there one so -/
def AnyIdx {α : Type} (l : List α) (Q : Int → α → Prop) : Prop := ∃ i x, idx l i = some x ∧ Q i x

/-- a loop that looks whether there is one so -/
theorem iter_any {α A : Type} {l : List α} {bad : A} {f : Bool × Int → Step (Bool × Int) A} (Q : Int → α → Prop) (P : A → Prop) (b0 : Bool) (hl : llen l ≤ 9223372036854775807)
    (hf : ∀ b i x, 0 ≤ i → i < llen l → idx l i = some x → ∃ b', f (b, i) = .next (b', wr .i64 (i + 1)) ∧ (b' = true ↔ b = true ∨ Q i x)) (hend : ∀ b i, ¬ i < llen l → (b = true ↔ b0 = true ∨ AnyIdx l Q) → EndRound P (f (b, i))) : P (iter bad f lots (b0, 0)) := by
  refine iter_up (fun s => s.2) (llen l) (fun s => s.1 = true ↔ b0 = true ∨ ∃ i x, i < s.2 ∧ idx l i = some x ∧ Q i x) P (by omega) (by simp) (llen_nonneg l) ⟨fun h => .inl h, fun h => h.elim id fun ⟨i, x, h1, h2, _⟩ => by have := (idx_some_iff h2).1; simp only at h1; omega⟩ (fun s hI i0 i1 => ?_) (fun s hI he => ?_)
  · obtain ⟨b, i⟩ := s
    simp only at hI i0 i1
    obtain ⟨x, hx, _⟩ := idx_get i0 i1
    obtain ⟨b', h1, h2⟩ := hf b i x i0 i1 hx
    rw [h1, wr_i64 (i + 1) (by omega) (by omega)]
    refine ⟨rfl, h2.trans ?_⟩
    rw [hI]
    constructor
    · rintro ((h | ⟨j, y, j1, hy, hq⟩) | h)
      · exact .inl h
      · exact .inr ⟨j, y, by simp only; omega, hy, hq⟩
      · exact .inr ⟨i, x, by simp only; omega, hx, h⟩
    · rintro (h | ⟨j, y, j1, hy, hq⟩)
      · exact .inl (.inl h)
      · by_cases e : j = i
        · subst e; rw [hx] at hy; cases hy; exact .inr hq
        · exact .inl (.inr ⟨j, y, by simp only at j1; omega, hy, hq⟩)
  · obtain ⟨b, i⟩ := s
    simp only at hI he
    refine hend b i (by omega) (hI.trans (or_congr_right ⟨fun ⟨j, x, _, h1, h2⟩ => ⟨j, x, h1, h2⟩, fun ⟨j, x, h1, h2⟩ => ⟨j, x, by have := (idx_some_iff h1).2.1; omega, h1, h2⟩⟩))

theorem shrBit {s i : Int} (hs : U32ok s) (h0 : 0 ≤ i) (h1 : i ≤ 31) : ((irem (shrop .u32 s (wr .u64 i)) 2) == 1) = bitI s i := by
  have hw : wr .u64 i = i := by
    show IntKind.u64.wrap i = i
    rw [wrap_u64]; omega
  obtain ⟨n, rfl⟩ : ∃ n : Nat, i = n := ⟨i.toNat, by omega⟩
  rw [hw, shr_u32 hs n (by omega)]
  apply Bool.eq_iff_iff.2
  rw [beq_iff_eq]
  unfold irem bitI
  have e : (((s.toNat >>> n : Nat) : Int)).tmod 2 = ((s.toNat >>> n % 2 : Nat) : Int) := by
    rw [Int.tmod_eq_emod_of_nonneg (Int.natCast_nonneg _)]; omega
  rw [e, Int.toNat_natCast, Nat.testBit_eq_decide_div_mod_eq, Nat.shiftRight_eq_div_pow]
  simp only [Bool.and_eq_true, decide_eq_true_eq]
  omega

theorem shrBit0 {s i : Int} (hs : U32ok s) (h0 : 0 ≤ i) (h1 : i ≤ 31) : ((irem (shrop .u32 s (wr .u64 i)) 2) == 0) = !bitI s i := by
  rw [← shrBit hs h0 h1]
  have hm : irem (shrop .u32 s (wr .u64 i)) 2 = 0 ∨ irem (shrop .u32 s (wr .u64 i)) 2 = 1 := by
    have hw : wr .u64 i = i := by
      show IntKind.u64.wrap i = i
      rw [wrap_u64]; omega
    obtain ⟨n, rfl⟩ : ∃ n : Nat, i = n := ⟨i.toNat, by omega⟩
    rw [hw, shr_u32 hs n (by omega)]
    unfold irem
    rw [Int.tmod_eq_emod_of_nonneg (Int.natCast_nonneg _)]; omega
  rcases hm with h | h <;> rw [h] <;> rfl

theorem idx_mapIdx {α β : Type} {l : List α} {f : Nat → α → β} {i : Int} (h0 : 0 ≤ i) : idx (l.mapIdx f) i = (idx l i).map (f i.toNat) := by
  rw [idx_nat h0, idx_nat h0, List.getElem?_mapIdx]
theorem llen_mapIdx {α β : Type} {l : List α} {f : Nat → α → β} : llen (l.mapIdx f) = llen l := by unfold llen; rw [List.length_mapIdx]
theorem idx_map {α β : Type} {l : List α} {f : α → β} {i : Int} : idx (l.map f) i = (idx l i).map f := by
  unfold idx; split
  · rw [List.getElem?_map]
  · rfl
theorem llen_map {α β : Type} {l : List α} {f : α → β} : llen (l.map f) = llen l := by unfold llen; rw [List.length_map]
theorem nil_app {α : Type} (l : List α) : ([] : List α) ++ l = l := rfl
theorem llen_nil {α : Type} : llen ([] : List α) = 0 := rfl
theorem llen_cons {α : Type} (a : α) (l : List α) : llen (a :: l) = llen l + 1 := by unfold llen; rw [List.length_cons]; omega
theorem room_snoc {α : Type} {l : List α} {x : α} {b : Nat} (h : (llen l + 1) * b ≤ 70368744177664) : (true && roomOK (llen l + llen (x :: ([] : List α))) b) = true := by
  rw [Bool.true_and]; exact room_le (by rw [llen_cons, llen_nil]; simpa using h)
theorem make_ok {n : Int} {b : Nat} (h0 : 0 ≤ n) (h : (b : Int) * n ≤ 140737488355328) : ((decide (0 ≤ n)) && ((decide (n ≤ n)) && (makeOK n b))) = true := by
  rw [make_le h]; simp [h0]

end Go.Den
namespace Go.Den
open Go.RowKit

/-! # Calls entered in place, and copies -/
theorem joinPt_app {σ A : Type} (k : σ → A) (body : (σ → A) → A) : joinPt k body = body k := id rfl

def AllOK (P : Program) (il : List (Nat × Inl)) : Prop := ∀ e ∈ il, FnOK P e.1 e.2
theorem AllOK.nil {P : Program} : AllOK P [] := fun _ h => by cases h
theorem AllOK.cons {P : Program} {f : Nat} {I : Inl} {il : List (Nat × Inl)} (h : FnOK P f I) (hl : AllOK P il) : AllOK P ((f, I) :: il) := fun e he => by
  rcases List.mem_cons.1 he with rfl | he
  · exact h
  · exact hl e he
theorem AllOK.inl {P : Program} {V : World → Prop} {l : List (Nat × FSpec)} {il : List (Nat × Inl)} (h : AllOK P il) : ∀ f I, (mkC P V l il).inl f = some I → FnOK (mkC P V l il).P f I := fun f I hf => h (f, I) (assoc_mem hf)

theorem meets_tot_il {P : Program} {V : World → Prop} {l : List (Nat × FSpec)} {il : List (Nat × Inl)} {f : FuncId} {fn : Func} {hs : Hints} {ats rts : List Ty} {g : (tupT ats).interp → (tupT rts).interp} (hl : AllMeet P V l) (hV : Stays V) (hm : P.follows .mixedOrders = true) (hI : AllOK P il) (hf : FnOK P f (inlOf fn hs))
    (fr : Bool) (d : Nat) (h : ∀ x, denote (mkC P V l il) d (inlOf fn hs) ats rts fr x = some (g x)) : Meets P V f (spT ats rts g fr) :=
  meets_of_denote (C := mkC P V l il) (I := inlOf fn hs) hl.tbl hV hm hI.inl hf d (fun x y hy => by
    have e : some (g x) = some y := hy
    rw [← e]; exact h x) (fun g' hg x => by cases hg; rfl)

theorem meets_part_il {P : Program} {V : World → Prop} {l : List (Nat × FSpec)} {il : List (Nat × Inl)} {f : FuncId} {fn : Func} {hs : Hints} {ats rts : List Ty} {g : (tupT ats).interp → Option (tupT rts).interp} (hl : AllMeet P V l) (hV : Stays V) (hm : P.follows .mixedOrders = true) (hI : AllOK P il) (hf : FnOK P f (inlOf fn hs))
    (fr : Bool) (d : Nat) (h : ∀ x, denote (mkC P V l il) d (inlOf fn hs) ats rts fr x = g x) : Meets P V f (spP ats rts g fr) :=
  meets_of_denote (C := mkC P V l il) (I := inlOf fn hs) hl.tbl hV hm hI.inl hf d (fun x y hy => by
    have e : g x = some y := hy
    rw [← e]; exact h x) (fun g' hg x => by cases hg)

/-! ## a copy: nothing of nothing, else a new list -/
def nilS : Operand := .const (.slice none 0 0)

/-- the code of a copy -/
structure CloneCode (P : Program) (fn : Func) (t e : TypeId) (rest : Code) : Prop where
  under : P.underlying t = some (.slice e)
  res : fn.results.toList = [.tmp 2]
  name : (fn.name == "runtime.NumGoroutine") = false
  dsts : okDsts fn.ntmps rest = true
  size : 8 ≤ fn.ntmps
  body : ∃ (i0 i1 i2 : Nat) (o0 o1 o2 o3 : Oper), fn.body = some (.seq (.region i0 #[o0] false) (.seq (.seq (.region i1 #[o1, o2] false) (.cond (.tmp 4) (.seq (.region i2 #[o3] false) .ret) .skip)) rest)) ∧
    (o0.dst = some 2 ∧ o0.op = .assign nilS ∧ o0.guard = none) ∧ (o1.dst = some 3 ∧ o1.op = .move (.tmp 0) ∧ o1.guard = none) ∧
    (o2.dst = some 4 ∧ (∃ t', o2.op = .binOp .eql t (.tmp 3) nilS t') ∧ o2.guard = none) ∧ (o3.dst = some 2 ∧ o3.op = .assign nilS ∧ o3.guard = none)

theorem eql_nil {P : Program} {t e t' : TypeId} (hu : P.underlying t = some (.slice e)) {o : Oper} (ho : o.op = .binOp .eql t (.tmp 3) nilS t') {a : Act} {ad : Option Addr} {n c : Nat} (hv : a.eval (.tmp 3) = .slice ad n c) (w : World) :
    (execOp a.eval o).run P w = .ok (.value (.bool ad.isNone)) w := by
  have h2 : a.eval nilS = .slice none 0 0 := rfl
  obtain ⟨d, hd⟩ : ∃ d, Op.maxDepth = d + 1 := ⟨9999, rfl⟩
  have h3 : ∀ y : Value, Op.equal t (.slice ad n c) y = Op.equalIn (d + 1) t (.slice ad n c) y := fun y => by unfold Op.equal; rw [hd]
  cases ad <;> simp [execOp, ho, hv, h2, eqGuard, binOp, h3, Op.equalIn, Sem.run_bind, run_underlying hu, Result.andThen_ok]

theorem wpOps_one {P : Program} {ops : Array Oper} {Q : Exit → Act → World → Prop} {i : Nat} {rest : List Nat} {a : Act} {w : World} {o : Oper} {v : Value} (ho : ops[i]? = some o) (hg : o.guard = none) (hr : (execOp a.eval o).run P w = .ok (.value v) w) (h : wpOps P ops Q rest (a.put o.dst v) w) : wpOps P ops Q (i :: rest) a w := by
  simp only [wpOps, ho]
  have hw : Region.wanted o (yielded ops a.tmps) = true := by simp [Region.wanted, hg]
  rw [if_pos hw]
  refine .inl ?_
  unfold Oper.wp
  rw [hr]
  exact h

theorem put_get {a : Act} {d s : Nat} {v : Value} (h : d < a.tmps.size) : (a.put (some d) v).tmps.getD s undef = if d = s then v else a.tmps.getD s undef := by
  simp only [put_tmps, putT]
  by_cases e : d = s
  · subst e; simp [h]
  · rw [if_neg e]
    simp [Array.getElem?_setIfInBounds_ne e]

theorem clone_meets {P : Program} {V : World → Prop} (hV : Stays V) (hm : P.follows .mixedOrders = true) {f : FuncId} {fn : Func} {t e : TypeId} {rest : Code} {T : Ty} {g : List T.interp → Option (List T.interp)} (hf : P.funcs[f]? = some fn) (hc : CloneCode P fn t e rest)
    (h : ∀ l : List T.interp, evCode (mkC P V []) (inlD (mkC P V []) 0) {} rest { renv := [], rheap := [] } { env := envOf 0 [.v (.c (.sl T l))], heap := [], next := 0 } (denK (mkC P V []) (inlOf fn {}) [.slice T] true) none = g l)
    (h0 : ∀ y, g [] = some y → y = []) : Meets P V f (spP [.slice T] [.slice T] g true) where
  enters := fun args w => by
    obtain ⟨i0, i1, i2, o0, o1, o2, o3, hb, _⟩ := hc.body
    have h3' : ¬ fn.name = "runtime.NumGoroutine" := by simpa using hc.name
    simp [callFunc, hf, hb, h3']
  tot := fun g' hg => by cases hg
  calls := fun w F vals x y hVw hF hargs hy => by
    have hy : g x = some y := hy
    obtain ⟨i0, i1, i2, o0, o1, o2, o3, hb, ⟨d0, p0, q0⟩, ⟨d1, p1, q1⟩, ⟨d2, ⟨t', p2⟩, q2⟩, ⟨d3, p3, q3⟩⟩ := hc.body
    obtain ⟨us, hreads, hvals⟩ : ∃ us, Reads w F (.slice T) x us ∧ vals = [valOf (.slice T) us] := hargs
    have hrd := hreads
    obtain ⟨ad, cap, hus, hlen, hmax, hrow⟩ := hreads
    have hv0 : vals = [.slice ad x.length cap] := by rw [hvals, hus]; rfl
    subst hv0
    have hC : CtxOK (mkC P V []) ⟨w, fun _ => False, w.heap.size, F⟩ := ⟨AllMeet.nil.tbl, fun w' hb => hV w w' hb hVw⟩
    refine calls_of_wp hf hb ?_
    have hsz : 8 ≤ ((#[Value.slice ad x.length cap] : Array Value) ++ Array.replicate (fn.ntmps - (#[Value.slice ad x.length cap] : Array Value).size) undef).size := by
      have := hc.size
      simp; omega
    have hg0 : ((#[Value.slice ad x.length cap] : Array Value) ++ Array.replicate (fn.ntmps - (#[Value.slice ad x.length cap] : Array Value).size) undef).getD 0 undef = .slice ad x.length cap := by simp [Array.getElem?_append]
    have hsz2 : fn.ntmps ≤ ((#[Value.slice ad x.length cap] : Array Value) ++ Array.replicate (fn.ntmps - (#[Value.slice ad x.length cap] : Array Value).size) undef).size := by simp; omega
    have htl : ([Value.slice ad x.length cap] : List Value).toArray = #[Value.slice ad x.length cap] := rfl
    rw [htl]
    generalize hT0 : (#[Value.slice ad x.length cap] : Array Value) ++ Array.replicate (fn.ntmps - (#[Value.slice ad x.length cap] : Array Value).size) undef = tm at hsz hg0 hsz2
    -- the first part
    refine wp_seq (wp_region ?_)
    refine wpOps_one (o := o0) (i := 0) (rest := []) rfl q0 (v := .slice none 0 0) (by simp [execOp, p0]; rfl) ?_
    show Exit.then _ _ .normal _ _
    simp only [Exit.then]
    rw [d0]
    refine wp_seq (wp_seq (wp_region ?_))
    have hg1 : ((⟨tm, []⟩ : Act).put (some 2) (.slice none 0 0)).eval (.tmp 0) = .slice ad x.length cap := by
      show ((⟨tm, []⟩ : Act).put (some 2) (.slice none 0 0)).tmps.getD 0 undef = _
      rw [put_get (by show 2 < tm.size; omega), if_neg (by decide)]; exact hg0
    refine wpOps_one (o := o1) (i := 0) (rest := [1]) rfl q1 (v := .slice ad x.length cap) (by simp [execOp, p1, hg1]) ?_
    rw [d1]
    have hg3 : (((⟨tm, []⟩ : Act).put (some 2) (.slice none 0 0)).put (some 3) (.slice ad x.length cap)).eval (.tmp 3) = .slice ad x.length cap := by
      show (((⟨tm, []⟩ : Act).put (some 2) (.slice none 0 0)).put (some 3) (.slice ad x.length cap)).tmps.getD 3 undef = _
      rw [put_get (by rw [put_size]; show 3 < tm.size; omega), if_pos rfl]
    refine wpOps_one (o := o2) (i := 1) (rest := []) rfl q2 (v := .bool ad.isNone) (eql_nil hc.under p2 hg3 w) ?_
    rw [d2]
    show Exit.then _ _ .normal _ _
    simp only [Exit.then]
    generalize ha3 : ((((⟨tm, []⟩ : Act).put (some 2) (.slice none 0 0)).put (some 3) (.slice ad x.length cap)).put (some 4) (.bool ad.isNone)) = a3
    have s3 : a3.tmps.size = tm.size := by rw [← ha3, put_size, put_size, put_size]
    have e3 : a3.defers = [] := by rw [← ha3, put_defers, put_defers, put_defers]
    have g0 : a3.tmps.getD 0 undef = .slice ad x.length cap := by
      rw [← ha3, put_get (by rw [put_size, put_size]; show 4 < tm.size; omega), if_neg (by decide), put_get (by rw [put_size]; show 3 < tm.size; omega), if_neg (by decide), put_get (by show 2 < tm.size; omega), if_neg (by decide)]; exact hg0
    have g4 : a3.eval (.tmp 4) = .bool ad.isNone := by
      show a3.tmps.getD 4 undef = _
      rw [← ha3, put_get (by rw [put_size, put_size]; show 4 < tm.size; omega), if_pos rfl]
    cases ad with
    | none =>
      refine wp_cond_true g4 (wp_seq (wp_region ?_))
      refine wpOps_one (o := o3) (i := 0) (rest := []) rfl q3 (v := .slice none 0 0) (by simp [execOp, p3]; rfl) ?_
      rw [d3]
      show Exit.then _ _ .normal _ _
      simp only [Exit.then]
      refine wp_ret ?_
      simp only [Exit.then]
      have hx : x = ([] : List T.interp) := by
        rcases hrow with h0 | ⟨b, off, cells, hh, _⟩
        · exact List.eq_nil_of_length_eq_zero h0
        · cases hh
      subst hx
      have hyn := h0 y hy
      subst hyn
      refine ⟨by rw [put_defers]; exact e3, .slice none 0 0, ?_, ?_⟩
      · have := results_run (P := P) (w := w) (fn := fn) (tmps := (a3.put (some 2) (.slice none 0 0)).tmps) hc.res (vs := [.slice none 0 0]) (.cons (by
          show (rv _ (.tmp 2)).run P w = _
          simp only [rv]
          rw [put_get (by rw [s3]; omega), if_pos rfl]; simp) .nil)
        exact this
      · exact ⟨[.slice none 0 0], rfl, Below.refl _ _, .slice none 0 0, none, rfl, none, 0, rfl, Nat.le_refl _, Nat.zero_le _, .inl ⟨rfl, rfl⟩⟩
    | some ad =>
      refine wp_cond_false g4 (wp_skip ?_)
      show Exit.then _ _ .normal _ _
      simp only [Exit.then]
      have hg : evCode (mkC P V []) (inlD (mkC P V []) 0) {} rest { renv := [], rheap := [] } { env := envOf 0 [.v (.c (.sl T x))], heap := [], next := 0 } (denK (mkC P V []) (inlOf fn {}) [.slice T] true) none = some y := (h x).trans hy
      have hB : ∀ k, ¬ (⟨w, fun _ => False, w.heap.size, F⟩ : Base).D k := fun _ hk => hk
      have hrel : RelV w F (fun _ => none) (.v (.c (.sl T x))) (.slice (some ad) x.length cap) := by
        have hall : All2 (RelV w F (fun _ => none)) (encArgs [.slice T] x) [.slice (some ad) x.length cap] := readArgs_rel ⟨us, hrd, hvals⟩
        cases hall with
        | cons h1 _ => exact h1
      have hM : RelM ⟨w, fun _ => False, w.heap.size, F⟩ { renv := [], rheap := [] } { env := envOf 0 [.v (.c (.sl T x))], heap := [], next := 0 } (fun _ => none) F w :=
        { heap := fun k o hk => by simp [St.obj, assoc] at hk
          own := fun k o hk => by simp [St.obj, assoc] at hk
          inj := fun k k' o o' hk => by simp [St.obj, assoc] at hk
          foreign := fun b hb => hb, flt := hF, dom := (fun k p hk => by cases hk), below := Below.refl _ _, bsize := Nat.le_refl _, obound := hF }
      have hat : At ⟨w, fun _ => False, w.heap.size, F⟩ { renv := [], rheap := [] } fn.ntmps (fun _ => none) F w { env := envOf 0 [.v (.c (.sl T x))], heap := [], next := 0 } (fun _ => none) F a3 w :=
        ⟨hM, fun s v hs => by
          simp only [St.get, assoc_env, Nat.not_lt_zero, if_false, Nat.sub_zero] at hs
          cases s with
          | zero =>
            have hs : some (AVal.v (V1.c (Cell.sl T x))) = some v := hs
            cases hs
            rw [g0]; exact hrel
          | succ s => simp [assoc] at hs, e3, by rw [s3]; exact hsz2, μle.refl _, Keeps.refl _ _, fun k p hk => by cases hk⟩
      have hap : Apart { renv := [], rheap := [] } { env := envOf 0 [.v (.c (.sl T x))], heap := [], next := 0 } := ⟨fun s hs => absurd rfl hs, fun k hk => absurd rfl hk, fun k hk => absurd rfl hk⟩
      refine evCode_run (C := mkC P V []) (B := ⟨w, fun _ => False, w.heap.size, F⟩) (Good := fun a => a = some y) (bad := none) hC hB (inl_meets hC hB hm AllOK.nil.inl 0) (draw_run hC hB hm) {} rest hc.dsts (by simp) hat hap (fun e' st' μ' O' a' w' h1 h2 h3 => ?_) hg
      obtain ⟨vs, ks, hvs, hyk, hfa⟩ := denK_some h3
      obtain ⟨us', k1, k2⟩ := resAll_rel (P := P) h2.mem h2.env hvs
      have fin : a'.defers = [] ∧ ∃ v, (results fn a'.tmps).run P w' = .ok v w' ∧ ∃ rs, Ending.returned v = .returned (retVal rs) ∧ Below w.heap.size w w' ∧ ResOK w.heap.size w' F true [.slice T] y rs := by
        simp only [freshAll, Bool.and_eq_true] at hfa
        obtain ⟨hform, hnd⟩ := hfa
        exact ⟨h2.defers, _, results_run rfl k1, us', rfl, h2.mem.below, fresh_res h2.mem k2 hyk hform (nodup_iff hnd)⟩
      cases e' with
      | exit i => cases h3
      | normal => exact fin
      | ret => exact fin

end Go.Den
namespace Go.Den
open Go.RowKit

/-! # Loops in loops, plainly -/
theorem pairs_gen {A : Type} {bad : A} {bad2 : Step Int A} {F : Int → Step Int A} {B : Int → Int → Step Int (Step Int A)} (n : Int) (m : Int → Int) (Q : Int → Int → Prop) (yes no : A) (P : A → Prop) (hn0 : 0 ≤ n) (hn : n ≤ 1000000) (hm : ∀ a, 0 ≤ a → a < n → 0 ≤ m a ∧ m a ≤ 1000000)
    (hF : ∀ a, 0 ≤ a → a < n → (F a = .next (wr .i64 (a + 1)) ∧ ∀ b, 0 ≤ b → b < m a → ¬ Q a b) ∨ (F a = iter bad2 (B a) lots 0 ∧ ∀ b, 0 ≤ b → b < m a → (Q a b ∧ B a b = .done (.done yes)) ∨ (¬ Q a b ∧ B a b = .next (wr .i64 (b + 1))))) (hFe : F n = .done no)
    (hBe : ∀ a, 0 ≤ a → a < n → B a (m a) = .done (.next (wr .i64 (a + 1))))
    (hy : (∃ a b, 0 ≤ a ∧ a < n ∧ 0 ≤ b ∧ b < m a ∧ Q a b) → P yes) (hno : (∀ a b, 0 ≤ a → a < n → 0 ≤ b → b < m a → ¬ Q a b) → P no) : P (iter bad F lots 0) := by
  refine iter_up (fun a : Int => a) n (fun a => ∀ a' b, 0 ≤ a' → a' < a → 0 ≤ b → b < m a' → ¬ Q a' b) P (by omega) (by omega) hn0 (fun a' b h0 h1 => by omega) (fun a hI a0 a1 => ?_) (fun a hI ha => ?_)
  · have a0 : 0 ≤ a := a0
    have a1 : a < n := a1
    have hma := hm a a0 a1
    have fin : (∀ b, 0 ≤ b → b < m a → ¬ Q a b) → UpRound (fun a : Int => a) (fun a => ∀ a' b, 0 ≤ a' → a' < a → 0 ≤ b → b < m a' → ¬ Q a' b) P a (.next (wr .i64 (a + 1)) : Step Int A) := fun hq => by
      rw [wr_i64 (a + 1) (by omega) (by omega)]
      refine ⟨rfl, fun a' b h0 h1 h2 h3 => ?_⟩
      by_cases e : a' = a
      · subst e; exact hq b h2 h3
      · exact hI a' b h0 (by omega) h2 h3
    rcases hF a a0 a1 with ⟨e, hq⟩ | ⟨e, hB⟩
    · rw [e]; exact fin hq
    · rw [e]
      refine iter_up (fun b : Int => b) (m a) (fun b => ∀ b', 0 ≤ b' → b' < b → ¬ Q a b') _ (by omega) (by omega) hma.1 (fun b' h0 h1 => by omega) (fun b hJ b0 b1 => ?_) (fun b hJ hb => ?_)
      · have b0 : 0 ≤ b := b0
        have b1 : b < m a := b1
        rcases hB b b0 b1 with ⟨hq, e2⟩ | ⟨hq, e2⟩
        · rw [e2]; exact hy ⟨a, b, a0, a1, b0, b1, hq⟩
        · rw [e2, wr_i64 (b + 1) (by omega) (by omega)]
          refine ⟨rfl, fun b' h0 h1 => ?_⟩
          by_cases e : b' = b
          · subst e; exact hq
          · exact hJ b' h0 (by omega)
      · have hb : b = m a := hb
        rw [hb, hBe a a0 a1]
        exact fin fun b' h0 h1 => hJ b' h0 (by omega)
  · have ha : a = n := ha
    rw [ha, hFe]
    exact hno fun a' b h0 h1 => hI a' b h0 (by omega)

theorem idx_zipWith {α β γ : Type} {f : α → β → γ} {l : List α} {m : List β} {i : Int} {a : α} {b : β} (ha : idx l i = some a) (hb : idx m i = some b) : idx (List.zipWith f l m) i = some (f a b) := by
  have h0 := (idx_some_iff ha).1
  rw [idx_nat h0] at *
  rw [List.getElem?_zipWith, ha, hb]
theorem llen_zipWith {α β γ : Type} {f : α → β → γ} {l : List α} {m : List β} (h : llen l = llen m) : llen (List.zipWith f l m) = llen l := by
  unfold llen at *
  rw [List.length_zipWith]; omega
theorem drop_idx {α : Type} {l : List α} {i : Int} {a : α} (h : idx l i = some a) : l.drop i.toNat = a :: l.drop (i + 1).toNat := by
  have h0 := (idx_some_iff h).1
  rw [idx_nat h0] at h
  obtain ⟨hl, he⟩ := List.getElem?_eq_some_iff.1 h
  rw [List.drop_eq_getElem_cons hl, he, show (i + 1).toNat = i.toNat + 1 by omega]
theorem drop_end {α : Type} {l : List α} {i : Int} (h : llen l ≤ i) : l.drop i.toNat = [] := List.drop_eq_nil_of_le (by unfold llen at h; omega)
theorem lrep_snoc {α : Type} {i : Int} (h : 0 ≤ i) (x : α) : lrep i x ++ (x :: []) = lrep (i + 1) x := by
  unfold lrep
  rw [show (i + 1).toNat = i.toNat + 1 by omega, List.replicate_succ']

theorem room_snoc2 {α β : Type} {l : List α} {x : β} {b : Nat} (h : (llen l + 1) * b ≤ 70368744177664) : (true && roomOK (llen l + llen (x :: ([] : List β))) b) = true := by
  rw [Bool.true_and]; exact room_le (by rw [llen_cons, llen_nil]; simpa using h)

theorem andBit {x b : Int} (hx : U32ok x) (b0 : 0 ≤ b) (b1 : b ≤ 31) : (bitop .and .u32 (shrop .u32 x b) 1 == 1) = bitI x b := by
  obtain ⟨n, rfl⟩ : ∃ n : Nat, b = n := ⟨b.toNat, by omega⟩
  have hs : shrop .u32 x n = ((x.toNat >>> n : Nat) : Int) := shr_u32 hx n (by omega)
  have hlt : x.toNat >>> n < 2 ^ 32 := by
    rw [Nat.shiftRight_eq_div_pow]; exact Nat.lt_of_le_of_lt (Nat.div_le_self _ _) (natlt hx)
  have ha : bitop .and .u32 ((x.toNat >>> n : Nat) : Int) 1 = ((x.toNat >>> n &&& 1 : Nat) : Int) := by
    have := and_u32 (u32_of hlt) (show U32ok 1 from ⟨by decide, by decide⟩)
    rw [Int.toNat_natCast] at this; exact this
  rw [hs, ha, Nat.and_one_is_mod]
  apply Bool.eq_iff_iff.2
  rw [beq_iff_eq]
  unfold bitI
  rw [Int.toNat_natCast, Nat.testBit_eq_decide_div_mod_eq, Nat.shiftRight_eq_div_pow]
  simp only [Bool.and_eq_true, decide_eq_true_eq]
  omega
theorem andBit0 {x b : Int} (hx : U32ok x) (b0 : 0 ≤ b) (b1 : b ≤ 31) : (bitop .and .u32 (shrop .u32 x b) 1 == 0) = !bitI x b := by
  rw [← andBit hx b0 b1]
  obtain ⟨n, rfl⟩ : ∃ n : Nat, b = n := ⟨b.toNat, by omega⟩
  have hs : shrop .u32 x n = ((x.toNat >>> n : Nat) : Int) := shr_u32 hx n (by omega)
  have hlt : x.toNat >>> n < 2 ^ 32 := by
    rw [Nat.shiftRight_eq_div_pow]; exact Nat.lt_of_le_of_lt (Nat.div_le_self _ _) (natlt hx)
  have ha : bitop .and .u32 ((x.toNat >>> n : Nat) : Int) 1 = ((x.toNat >>> n &&& 1 : Nat) : Int) := by
    have := and_u32 (u32_of hlt) (show U32ok 1 from ⟨by decide, by decide⟩)
    rw [Int.toNat_natCast] at this; exact this
  rw [hs, ha, Nat.and_one_is_mod]
  rcases Nat.mod_two_eq_zero_or_one (x.toNat >>> n) with h | h <;> rw [h] <;> rfl
theorem wr_u64i {i : Int} (h0 : 0 ≤ i) (h1 : i ≤ 9223372036854775807) : wr .u64 i = i := by
  show IntKind.u64.wrap i = i
  rw [wrap_u64]; omega

end Go.Den
