/- Part of a proof: plain readings of Go functions, their contracts, or plain facts of them. -/
import Derived.Test.YtfdnmjabjmedgaaDoorRows
import Derived.Test.YtfdnmjabjmedgaaDoorPlqP
import Derived.Lib.Walk
import Derived.Tactics
namespace Go.Proofs.YtfdnmjabjmedgaaDoor
open Go.Den Go.RowKit Go.ChangeShapes

theorem hmix : Tryd.prog.follows .mixedOrders = true := by kernel_rfl
theorem laidOut : laidOutB Tryd.prog = true := by kernel_rfl
theorem own : ownKnob Tryd.prog.godebug = none := by kernel_rfl
def V : World → Prop := fun w => ∃ cs t, w.heap[0]? = some (.cells cs t (0, 0)) ∧ cs.toList = Lib.deBruijn32tab.map fun (n : Nat) => Value.int .u8 (n : Int)
theorem stays : Stays V := fun w w' hb ⟨cs, t, h1, h2⟩ => ⟨cs, t, by rw [hb.block 0 ((Array.getElem?_eq_some_iff.1 h1).1)]; exact h1, h2⟩
theorem V.cell {w : World} (h : V w) (i : Nat) (hi : i < 32) : w.cell? ⟨0, i, none⟩ = some (.int .u8 (Lib.deBruijn32tab.getD i 0 : Nat)) := by
  obtain ⟨cs, t, h1, h2⟩ := h
  unfold World.cell?
  rw [h1]
  have : cs[i]? = some (Value.int .u8 (Lib.deBruijn32tab.getD i 0 : Nat)) := by
    rw [← Array.getElem?_toList, h2, List.getElem?_map, List.getD_eq_getElem?_getD]
    have hl : i < Lib.deBruijn32tab.length := hi
    rw [List.getElem?_eq_getElem hl]; rfl
  simpa using this
theorem tz_arith {x : Int} (hx : U32ok x) (h0 : x ≠ 0) : bits .and .u32 x (-x % 4294967296) * 125613361 % 4294967296 / 134217728 = ((2 ^ (Lib.ctz 32 x.toNat) * 125613361 % 4294967296 / 134217728 : Nat) : Int) ∧ Lib.ctz 32 x.toNat < 32 := by
  have hn : x.toNat ≠ 0 := by have := hx.1; omega
  obtain ⟨h1, h2⟩ := Lib.lowest_bit 32 x.toNat hn (natlt hx)
  refine ⟨?_, h2⟩
  have e : -x % 4294967296 = 4294967296 - x := by have := hx.1; have := hx.2; omega
  have hy : U32ok (4294967296 - x) := ⟨by have := hx.2; omega, by have := hx.1; omega⟩
  have hb : bits .and .u32 x (-x % 4294967296) = ((2 ^ Lib.ctz 32 x.toNat : Nat) : Int) := by
    rw [e]
    have hk : bits .and .u32 x (4294967296 - x) = bitop .and .u32 x (4294967296 - x) := rfl
    rw [hk, and_u32 hx hy, ← h1]
    congr 2
    have := hx.1; have := hx.2
    have : (2 : Nat) ^ 32 = 4294967296 := by decide
    omega
  rw [hb]
  simp
theorem inR_u32 {x : Int} (h : inR .u32 x = true) : U32ok x := by
  simpa [inR, IntKind.min, IntKind.max, IntKind.signed, IntKind.bits, U32ok] using h
theorem inR_i64 {y : Int} (h0 : 0 ≤ y) (h1 : y ≤ 1000000) : inR .i64 y = true := by
  simp only [inR, IntKind.min, IntKind.max, IntKind.signed, IntKind.bits, Bool.and_eq_true, decide_eq_true_eq]
  simp
  omega
theorem tz_bound {x : Int} (hx : U32ok x) : 0 ≤ bits_TrailingZeros32 x ∧ bits_TrailingZeros32 x ≤ 32 := by
  unfold bits_TrailingZeros32
  by_cases hz : x = 0
  · simp [low, hz]
  · have := low_spec hx hz; omega
theorem tz_walk (x : Int) (w : World) (hx : U32ok x) (hv : V w) :
    Calls Tryd.prog 109 #[.int .u32 x] w fun e w' => e = .returned (.int .i64 (bits_TrailingZeros32 x)) ∧ w' = w := by
  have hc := hv.cell
  have h0 := hx.1
  have h1 := hx.2
  by_cases hz : x = 0
  · subst hz
    go_enter Tryd.func109, Tryd.ntmps109
    go_wp2
    all_goals first | (go_ret; exact ⟨rfl, rfl⟩) | (rename_i h; exact absurd h (by decide))
  · go_enter Tryd.func109, Tryd.ntmps109
    go_wp2
    · rename_i h
      exact absurd (by simpa using h) hz
    · go_ret
      refine ⟨?_, rfl⟩
      obtain ⟨h2, h3⟩ := tz_arith hx hz
      obtain ⟨h4, h5⟩ := Lib.deBruijn32_at _ h3
      have e : ((Lib.deBruijn32tab[(bits BinOp.and IntKind.u32 x (-x % 4294967296) * 125613361 % 4294967296 / 134217728).toNat]?.getD 0 : Nat) : Int) = Lib.ctz 32 x.toNat := by
        rw [h2, Int.toNat_natCast, ← List.getD_eq_getElem?_getD, h5]
      have hn : x.toNat ≠ 0 := by omega
      have hl : bits_TrailingZeros32 x = Lib.ctz 32 x.toNat := by simp [bits_TrailingZeros32, low, hz]
      rw [hl, e]
      have e3 : ((Lib.ctz 32 x.toNat : Int) + 9223372036854775808) % 18446744073709551616 - 9223372036854775808 = Lib.ctz 32 x.toNat := by omega
      rw [e3]
      rfl
theorem bits_TrailingZeros32_m : Meets Tryd.prog V 109 (spT [U32] [I64] bits_TrailingZeros32) where
  enters := fun args w => by
    have h : FnOK Tryd.prog 109 (inlOf Tryd.f109 {}) := fnOK Tryd.func109 (by kernel_rfl) (by kernel_rfl) (by kernel_rfl)
    exact h.enters args w
  tot := fun g hg x => by cases hg; rfl
  calls := fun w F vals x y hv hF hr hy => by
    have hy' : some (bits_TrailingZeros32 x) = some y := hy
    cases hy'
    obtain ⟨us, h1, h2⟩ := hr
    have h1' : us = [.int .u32 x] ∧ inR .u32 x = true := h1
    obtain ⟨rfl, hin⟩ := h1'
    have hx : U32ok x := inR_u32 hin
    have : vals = [.int .u32 x] := h2
    subst this
    have hb : inR .i64 (bits_TrailingZeros32 x) = true := inR_i64 (tz_bound hx).1 (by have := (tz_bound hx).2; omega)
    refine (tz_walk x w hx hv).mono fun e w' ⟨he, hw⟩ => ?_
    subst hw
    exact ⟨[.int .i64 (bits_TrailingZeros32 x)], by rw [he]; rfl, Below.refl _ _, ⟨_, ⟨rfl, hb⟩, rfl⟩⟩

end Go.Proofs.YtfdnmjabjmedgaaDoor
