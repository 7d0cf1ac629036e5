/- Part of a proof: plain readings of Go functions, their contracts, or plain facts of them. -/
import Derived.Test.YtfdnmjabjmedgaaDoorPlqS
import Derived.Test.YtfdnmjabjmedgaaDoorDen3
namespace Go.Proofs.YtfdnmjabjmedgaaDoor
open Go.Den

/-! # The document's look at a site answers as the program's -/
theorem refIn_iff (a b c : Int) : ref05_in (a, (b, c)) = true ↔ b ≤ a ∧ a ≤ c := by
  unfold ref05_in; simp

theorem wr_u64 {i : Int} (h0 : 0 ≤ i) (h1 : i ≤ 9223372036854775807) : wr .u64 i = i := by
  have : IntKind.u64.wrap i = i % 18446744073709551616 := by
    simp only [IntKind.wrap, IntKind.signed, IntKind.bits]
    rfl
  unfold wr; rw [this]; omega

theorem refHas_eq {s i : Int} (hs : U32ok s) : ref02_Has (s, i) = bitI s i := by
  unfold ref02_Has
  rw [cnd_if]
  split
  · rename_i h
    simp only [Bool.and_eq_true, decide_eq_true_eq] at h
    simp only
    have e : i = ((i.toNat : Nat) : Int) := by omega
    rw [wr_u64 h.1 (by omega)]
    have e2 : shrop .u32 s i = ((s.toNat >>> i.toNat : Nat) : Int) := by
      have := shr_u32 hs i.toNat (by omega)
      rwa [← e] at this
    rw [e2]
    unfold bitI irem
    rw [decide_eq_true h.1, Bool.true_and, Nat.testBit_eq_decide_div_mod_eq, Nat.shiftRight_eq_div_pow]
    apply Bool.eq_iff_iff.2
    rw [beq_iff_eq, decide_eq_true_eq, Int.tmod_eq_emod_of_nonneg (Int.natCast_nonneg _)]
    omega
  · rename_i h
    simp only [Bool.and_eq_true, decide_eq_true_eq] at h
    by_cases h2 : i < 0
    · rw [bit_neg h2]
    · rw [bit_high hs (by omega)]

theorem refApart_s {x : PSSite} (hx : SFits x) {a b s : Int} (h : idx x.2.2.1 a = some s) : ref05_Apart_t (x, (a, b)) = some (bitI s b) := by
  unfold ref05_Apart_t
  simp only [h, elimO_some, letK, refHas_eq (hx.as s (idx_some_iff h).2.2)]

theorem below_iff {s n : Int} (hs : U32ok s) (h0 : 0 ≤ n) (h1 : n ≤ 16) : ¬ (shlop .u32 1 (wr .u64 n) ≤ s) ↔ shrop .u32 s n = 0 := by
  rw [wr_u64 h0 (by omega), shl1 h0 (by omega)]
  have e : n = ((n.toNat : Nat) : Int) := by omega
  have e2 : shrop .u32 s n = ((s.toNat >>> n.toNat : Nat) : Int) := by
    have := shr_u32 hs n.toNat (by omega)
    rwa [← e] at this
  rw [e2, Nat.shiftRight_eq_div_pow, Int.natCast_eq_zero, Nat.div_eq_zero_iff]
  have hp : 0 < 2 ^ n.toNat := Nat.pow_pos (by decide)
  have := hs.1
  omega

structure GShape (x : PSSite) : Prop where
  n1 : 1 ≤ llen x.2.1
  n2 : llen x.2.1 ≤ 16
  a : llen x.2.2.1 = llen x.2.1
  b : llen x.2.2.2.1 = llen x.2.1
  rows : ∀ i r, idx x.2.2.2.1 i = some r → llen r = llen x.2.1
  aps : ∀ i s, idx x.2.2.1 i = some s → shrop .u32 s (llen x.2.1) = 0

theorem ShapeOK.g {x : PSSite} (h : ShapeOK x) : GShape x := ⟨h.n1, h.n2, h.a, h.b, h.rows, h.aps⟩

/-- what is looked at of a pair -/
def PairOK (x : PSSite) (g : PSGroup) (a b : Int) : Prop :=
  ∀ r sa m sb, idx x.2.2.2.1 a = some r → idx x.2.2.1 a = some sa → idx r b = some m → idx x.2.2.1 b = some sb →
    bitI sa b = bitI sb a ∧ (bitI sa b = true → a ≠ b ∧ g.2.2 ≤ m ∧ m ≤ 1048576) ∧ (bitI sa b = false → m = 0)

theorem refGroups_s {x : PSSite} (hx : SFits x) : ∃ b, ref05_groups_t x = some b ∧ (b = true ↔ (0 ≤ x.1 ∧ x.1 ≤ 65535) ∧ GShape x ∧ ApartOK x) := by
  unfold ref05_groups_t
  rw [letK_app, cnd_if]
  split
  · rename_i h
    refine ⟨false, rfl, fun hh => (by cases hh), fun hh => ?_⟩
    have i1 := (refIn_iff x.1 0 65535).2 hh.1
    have i2 := (refIn_iff (llen x.2.1) 1 16).2 ⟨hh.2.1.n1, hh.2.1.n2⟩
    simp [i1, i2, hh.2.1.a, hh.2.1.b] at h
  · rename_i h
    simp only [Bool.or_eq_true, Bool.not_eq_true', beq_eq_false_iff_ne, not_or, Bool.not_eq_false, ne_eq, Decidable.not_not] at h
    obtain ⟨⟨⟨h1, h2⟩, h3⟩, h4⟩ := h
    have h1 := (refIn_iff _ _ _).1 h1
    have h2 := (refIn_iff _ _ _).1 h2
    refine iter_ind (fun i => 0 ≤ i ∧ i ≤ llen x.2.1 ∧ ∀ j g, j < i → idx x.2.1 j = some g → (g.1 = 1 ∨ g.1 = 2) ∧ (1 ≤ g.2.1 ∧ g.2.1 ≤ 1048576) ∧ (1 ≤ g.2.2 ∧ g.2.2 ≤ 1048576) ∧ (∀ r, idx x.2.2.2.1 j = some r → llen r = llen x.2.1) ∧ (∀ s, idx x.2.2.1 j = some s → shrop .u32 s (llen x.2.1) = 0))
      (fun i => (llen x.2.1 - i).toNat) (fun a : Option Bool => ∃ b, a = some b ∧ (b = true ↔ (0 ≤ x.1 ∧ x.1 ≤ 65535) ∧ GShape x ∧ ApartOK x)) ?_ lots 0 ⟨by omega, by omega, fun j g j0 hg => absurd (idx_some_iff hg).1 (by omega)⟩ (by rw [lots_eq]; omega)
    rintro i ⟨i0, i1, ih⟩
    by_cases hi : i < llen x.2.1
    · obtain ⟨g, hg, hgm⟩ := idx_get i0 hi
      obtain ⟨r, hr, _⟩ := idx_get (l := x.2.2.2.1) i0 (by omega)
      obtain ⟨s, hsx, hsm⟩ := idx_get (l := x.2.2.1) i0 (by omega)
      simp only [hi, decide_true, cnd_true, hg, elimO_some]
      by_cases c1 : ((((!(g.1 == 1)) && (!(g.1 == 2))) || (!(ref05_in (g.2.1, (1, 1048576))))) || (!(ref05_in (g.2.2, (1, 1048576))))) = true
      · simp only [c1, cnd_true]
        refine ⟨false, rfl, fun hh => (by cases hh), fun hh => ?_⟩
        have gk := hh.2.2 i g hg
        have t1 := (refIn_iff g.2.1 _ _).2 gk.min
        have t2 := (refIn_iff g.2.2 _ _).2 gk.yellow
        rcases gk.kind with k | k <;> simp [t1, t2, k] at c1
      · have c1' := Bool.eq_false_iff.2 c1
        simp only [c1', cnd_false, hr, elimO_some]
        simp only [Bool.or_eq_false_iff, Bool.and_eq_false_iff, Bool.not_eq_false', beq_iff_eq] at c1'
        obtain ⟨⟨d1, d2⟩, d3⟩ := c1'
        have d2 := (refIn_iff _ _ _).1 d2
        have d3 := (refIn_iff _ _ _).1 d3
        by_cases c2 : llen r = llen x.2.1
        · simp only [c2, beq_self_eq_true, Bool.not_true, cnd_false, hsx, elimO_some]
          by_cases c3 : shlop .u32 1 (wr .u64 (llen x.2.1)) ≤ s
          · simp only [c3, decide_true, cnd_true]
            refine ⟨false, rfl, fun hh => (by cases hh), fun hh => ?_⟩
            exact absurd c3 ((below_iff (hx.as s hsm) (by omega) (by omega)).2 (hh.2.1.aps i s hsx))
          · simp only [c3, decide_false, cnd_false]
            rw [wr_i64 (i + 1) (by omega) (by omega)]
            refine ⟨⟨by omega, by omega, fun j g' hj hg' => ?_⟩, (by show (llen x.2.1 - (i + 1)).toNat < (llen x.2.1 - i).toNat; omega)⟩
            by_cases e : j = i
            · subst e
              rw [hg] at hg'; cases hg'
              exact ⟨d1, d2, d3, fun r' hr' => by rw [hr] at hr'; cases hr'; exact c2, fun s' hs' => by rw [hsx] at hs'; cases hs'; exact (below_iff (hx.as s hsm) (by omega) (by omega)).1 c3⟩
            · exact ih j g' (by omega) hg'
        · simp only [beq_false_of_ne c2, Bool.not_false, cnd_true]
          exact ⟨false, rfl, fun hh => (by cases hh), fun hh => absurd (hh.2.1.rows i r hr) c2⟩
    · simp only [hi, decide_false, cnd_false]
      have gs : GShape x := ⟨h2.1, h2.2, h3, h4, fun j r hr => by
        obtain ⟨g, hg, _⟩ := idx_get (l := x.2.1) (idx_some_iff hr).1 (by have := (idx_some_iff hr).2.1; omega)
        exact (ih j g (by have := (idx_some_iff hr).2.1; omega) hg).2.2.2.1 r hr, fun j s hs => by
        obtain ⟨g, hg, _⟩ := idx_get (l := x.2.1) (idx_some_iff hs).1 (by have := (idx_some_iff hs).2.1; omega)
        exact (ih j g (by have := (idx_some_iff hs).2.1; omega) hg).2.2.2.2 s hs⟩
      show ∃ b, iter _ _ _ _ = some b ∧ _
      refine iter_ind (fun i => 0 ≤ i ∧ i ≤ llen x.2.1 ∧ ∀ a b g, a < i → idx x.2.1 a = some g → PairOK x g a b) (fun i => (llen x.2.1 - i).toNat) (fun a : Option Bool => ∃ b, a = some b ∧ (b = true ↔ (0 ≤ x.1 ∧ x.1 ≤ 65535) ∧ GShape x ∧ ApartOK x)) ?_ lots 0 ⟨by omega, by omega, fun a b g a0 hg => absurd (idx_some_iff hg).1 (by omega)⟩ (by rw [lots_eq]; omega)
      rintro a ⟨a0, a1, ah⟩
      by_cases ha : a < llen x.2.1
      · obtain ⟨g, hg, _⟩ := idx_get a0 ha
        obtain ⟨r, hr, _⟩ := idx_get (l := x.2.2.2.1) a0 (by omega)
        obtain ⟨sa, hsa, _⟩ := idx_get (l := x.2.2.1) a0 (by omega)
        have hrl := gs.rows a r hr
        simp only [ha, decide_true, cnd_true]
        refine iter_ind (fun b => 0 ≤ b ∧ b ≤ llen x.2.1 ∧ ∀ b', b' < b → PairOK x g a b') (fun b => (llen x.2.1 - b).toNat) (fun z : Step Int (Option Bool) => Round (fun i => 0 ≤ i ∧ i ≤ llen x.2.1 ∧ ∀ a b g, a < i → idx x.2.1 a = some g → PairOK x g a b) (fun i => (llen x.2.1 - i).toNat) (fun a : Option Bool => ∃ b, a = some b ∧ (b = true ↔ (0 ≤ x.1 ∧ x.1 ≤ 65535) ∧ GShape x ∧ ApartOK x)) (llen x.2.1 - a).toNat z) ?_ lots 0 ⟨by omega, by omega, fun b' hb' r sa m sb _ _ h3 _ => absurd (idx_some_iff h3).1 (by omega)⟩ (by rw [lots_eq]; omega)
        rintro b ⟨b0, b1, bh⟩
        by_cases hb : b < llen x.2.1
        · obtain ⟨sb, hsb, _⟩ := idx_get (l := x.2.2.1) b0 (by omega)
          obtain ⟨m, hm, _⟩ := idx_get (l := r) b0 (by omega)
          have bad : ¬ PairOK x g a b → ∃ v, (some false : Option Bool) = some v ∧ (v = true ↔ (0 ≤ x.1 ∧ x.1 ≤ 65535) ∧ GShape x ∧ ApartOK x) := fun hn => ⟨false, rfl, fun hh => (by cases hh), fun hh => absurd (fun r' sa' m' sb' e1 e2 e3 e4 => (hh.2.2 a g hg).row r' sa' b m' sb' e1 e2 e3 e4) hn⟩
          have good : PairOK x g a b → Round (fun b => 0 ≤ b ∧ b ≤ llen x.2.1 ∧ ∀ b', b' < b → PairOK x g a b') (fun b => (llen x.2.1 - b).toNat) (fun z : Step Int (Option Bool) => Round (fun i => 0 ≤ i ∧ i ≤ llen x.2.1 ∧ ∀ a b g, a < i → idx x.2.1 a = some g → PairOK x g a b) (fun i => (llen x.2.1 - i).toNat) (fun a : Option Bool => ∃ b, a = some b ∧ (b = true ↔ (0 ≤ x.1 ∧ x.1 ≤ 65535) ∧ GShape x ∧ ApartOK x)) (llen x.2.1 - a).toNat z) (llen x.2.1 - b).toNat (.next (wr .i64 (b + 1))) := fun hp => by
            rw [wr_i64 (b + 1) (by omega) (by omega)]
            refine ⟨⟨by omega, by omega, fun b' hb' => ?_⟩, (by show (llen x.2.1 - (b + 1)).toNat < (llen x.2.1 - b).toNat; omega)⟩
            by_cases e : b' = b
            · subst e; exact hp
            · exact bh b' (by omega)
          have pk : PairOK x g a b ↔ (bitI sa b = bitI sb a ∧ (bitI sa b = true → a ≠ b ∧ g.2.2 ≤ m ∧ m ≤ 1048576) ∧ (bitI sa b = false → m = 0)) := ⟨fun hp => hp r sa m sb hr hsa hm hsb, fun hp r' sa' m' sb' e1 e2 e3 e4 => by
            rw [hr] at e1; cases e1
            rw [hsa] at e2; cases e2
            rw [hm] at e3; cases e3
            rw [hsb] at e4; cases e4
            exact hp⟩
          simp only [hb, decide_true, cnd_true, refApart_s hx hsa, refApart_s hx hsb, elimO_some]
          cases hp : bitI sa b with
          | true =>
            cases hq : bitI sb a with
            | false =>
              simp only [show (true == false) = false from rfl, Bool.not_false, cnd_true]
              exact bad (fun hh => by have := (pk.1 hh).1; rw [hp, hq] at this; cases this)
            | true =>
              simp only [beq_self_eq_true, Bool.not_true, cnd_false, cnd_true]
              by_cases e : a = b
              · simp only [beq_iff_eq.2 e, cnd_true]
                exact bad (fun hh => ((pk.1 hh).2.1 hp).1 e)
              · simp only [beq_false_of_ne e, cnd_false, hr, hm, hg, elimO_some, letK]
                by_cases c : ref05_in (m, (g.2.2, 1048576)) = true
                · simp only [c, Bool.not_true, cnd_false]
                  exact good (pk.2 ⟨by rw [hp, hq], fun _ => ⟨e, (refIn_iff _ _ _).1 c⟩, fun h => (by rw [hp] at h; cases h)⟩)
                · have c' := Bool.eq_false_iff.2 c
                  simp only [c', Bool.not_false, cnd_true]
                  exact bad (fun hh => c ((refIn_iff _ _ _).2 ((pk.1 hh).2.1 hp).2))
          | false =>
            cases hq : bitI sb a with
            | true =>
              simp only [show (false == true) = false from rfl, Bool.not_false, cnd_true]
              exact bad (fun hh => by have := (pk.1 hh).1; rw [hp, hq] at this; cases this)
            | false =>
              simp only [beq_self_eq_true, Bool.not_true, cnd_false, Bool.not_false, cnd_true, hr, hm, elimO_some]
              have both : ∀ {A : Type} (u : A), cnd (a == b) u u = u := fun u => by cases (a == b) <;> rfl
              rw [both]
              by_cases c : m = 0
              · simp only [beq_iff_eq.2 c, Bool.not_true, cnd_false]
                exact good (pk.2 ⟨by rw [hp, hq], fun h => (by rw [hp] at h; cases h), fun _ => c⟩)
              · simp only [beq_false_of_ne c, Bool.not_false, cnd_true]
                exact bad (fun hh => c ((pk.1 hh).2.2 hp))
        · simp only [hb, decide_false, cnd_false]
          rw [wr_i64 (a + 1) (by omega) (by omega)]
          refine ⟨⟨by omega, by omega, fun a' b' g' ha' hg' => ?_⟩, (by show (llen x.2.1 - (a + 1)).toNat < (llen x.2.1 - a).toNat; omega)⟩
          by_cases e : a' = a
          · subst e
            rw [hg] at hg'; cases hg'
            by_cases e2 : b' < llen x.2.1
            · exact bh b' (by omega)
            · intro r' sa' m' sb' _ _ _ e4
              exact absurd (idx_some_iff e4).2.1 (by omega)
          · exact ah a' b' g' (by omega) hg'
      · simp only [ha, decide_false, cnd_false]
        refine ⟨true, rfl, fun _ => ⟨h1, gs, fun a' g' hg' => ?_⟩, fun _ => rfl⟩
        have hl := (idx_some_iff hg').2.1
        obtain ⟨d1, d2, d3, _, _⟩ := ih a' g' (by omega) hg'
        exact ⟨d1, d2, d3, fun r' sa' b' m' sb' e1 e2 e3 e4 => ah a' b' g' (by omega) hg' r' sa' m' sb' e1 e2 e3 e4⟩

/-! ## phases -/
theorem bit_groupG {x : PSSite} (hs : GShape x) {s : Int} (hu : U32ok s) (h : shrop .u32 s (llen x.2.1) = 0) {k : Int} (hk : bitI s k = true) : 0 ≤ k ∧ k < llen x.2.1 := by
  have h2 := (shr_zero hu (llen_nonneg x.2.1) (by have := hs.n2; omega)).1 h k
  refine ⟨?_, ?_⟩
  · apply Int.not_lt.1
    intro hn
    rw [bit_neg hn] at hk; cases hk
  · apply Int.not_le.1
    intro hn
    rw [h2 hn] at hk; cases hk

theorem add_or {m i : Nat} (hm : m < 2 ^ 32) (hi : i < 32) (hb : m.testBit i = false) : m + 2 ^ i = m ||| 2 ^ i := by
  have h2 : 2 ^ i < 2 ^ 32 := Nat.pow_lt_pow_right (by decide) hi
  have h : BitVec.ofNat 32 m &&& BitVec.ofNat 32 (2 ^ i) = 0#32 := by
    apply BitVec.eq_of_getLsbD_eq
    intro j hj
    rw [BitVec.getLsbD_and, BitVec.getLsbD_ofNat, BitVec.getLsbD_ofNat, Nat.testBit_two_pow]
    by_cases e : i = j
    · subst e; simp [hb]
    · simp [e]
  have := congrArg BitVec.toNat (BitVec.add_eq_or_of_and_eq_zero _ _ h)
  rw [BitVec.toNat_add, BitVec.toNat_or, BitVec.toNat_ofNat, BitVec.toNat_ofNat, Nat.mod_eq_of_lt hm, Nat.mod_eq_of_lt h2] at this
  rw [← this, Nat.mod_eq_of_lt]
  have e : m ||| 2 ^ i < 2 ^ 32 := Nat.or_lt_two_pow hm h2
  by_cases hlt : m + 2 ^ i < 2 ^ 32
  · exact hlt
  · exfalso
    have h3 : (m + 2 ^ i) % 2 ^ 32 = m + 2 ^ i - 2 ^ 32 := by
      rw [Nat.mod_eq_sub_mod (by omega), Nat.mod_eq_of_lt (by omega)]
    rw [h3] at this
    have h4 : m ≤ m ||| 2 ^ i := Nat.left_le_or
    omega

theorem refWith_s {m i : Int} (hm : U32ok m) (h0 : 0 ≤ i) (h1 : i ≤ 31) : U32ok (ref02_With (m, i)) ∧ ∀ j, bitI (ref02_With (m, i)) j = (bitI m j || decide (i = j)) := by
  have key : ref02_With (m, i) = bitop .or .u32 m ((2 ^ i.toNat : Nat) : Int) := by
    have hor := or_u32 hm (pow_ok h0 h1)
    unfold ref02_With
    rw [cnd_if, refHas_eq hm]
    split
    · rename_i h
      have h : bitI m i = true := by
        simp only [Bool.or_eq_true, decide_eq_true_eq] at h
        rcases h with (h | h) | h
        · exact absurd h (by omega)
        · exact absurd h (by omega)
        · exact h
      refine bit_ext hm (or_ok hm (pow_ok h0 h1)) fun j _ _ => ?_
      rw [bit_or hm (pow_ok h0 h1), bit_pow h0]
      by_cases e : i = j
      · subst e; simp [h]
      · simp [e]
    · rename_i h
      have h : bitI m i = false := by
        simp only [Bool.or_eq_true, decide_eq_true_eq, not_or, Bool.not_eq_true] at h
        exact h.2
      simp only
      rw [wr_u64 h0 (by omega), shl1 h0 h1, hor]
      have hb : m.toNat.testBit i.toNat = false := by
        unfold bitI at h
        rw [decide_eq_true h0, Bool.true_and] at h
        exact h
      have hi32 : i.toNat < 32 := by clear hor; omega
      have e := add_or (natlt hm) hi32 hb
      rw [Int.toNat_natCast (2 ^ i.toNat), ← e]
      unfold wr
      rw [wrap_u32]
      have h5 : m.toNat + 2 ^ i.toNat < 2 ^ 32 := by rw [e]; exact Nat.or_lt_two_pow (natlt hm) (Nat.pow_lt_pow_right (by decide) (by omega))
      have h6 := hm.1
      have h7 : (2 : Nat) ^ 32 = 4294967296 := by decide
      generalize 2 ^ i.toNat = w at h5 ⊢
      omega
  rw [key]
  exact ⟨or_ok hm (pow_ok h0 h1), fun j => by rw [bit_or hm (pow_ok h0 h1), bit_pow h0]⟩

theorem refCount_s {m : Int} (hm : U32ok m) : ref02_Count_t m = some (cnt m) := by
  unfold ref02_Count_t
  refine iter_ind (fun z => 0 ≤ z.2 ∧ z.2 ≤ 32 ∧ z.1 = (cntN m.toNat 0 z.2.toNat : Int)) (fun z => (32 - z.2).toNat) (fun a => a = some (cnt m)) ?_ lots (0, 0) ⟨by simp, by simp, rfl⟩ (by rw [lots_eq]; simp)
  rintro ⟨c, i⟩ ⟨h0, h1, h2⟩
  simp only at h0 h1 h2
  by_cases hi : i < 32
  · have hc : cntN m.toNat 0 (i + 1).toNat = cntN m.toNat 0 i.toNat + (if bitI m i = true then 1 else 0) := by
      rw [show (i + 1).toNat = i.toNat + 1 by omega, cntN_add]
      congr 1
      unfold cntN bitI
      rw [decide_eq_true h0, Bool.true_and]
      cases hb : m.toNat.testBit i.toNat <;> simp [List.range_succ, hb]
    have hle := cntN_le m.toNat 0 i.toNat
    simp only [hi, decide_true, cnd_true, letK, refHas_eq hm]
    rw [wr_i64 (i + 1) (by omega) (by omega)]
    cases hb : bitI m i with
    | true =>
      simp only [cnd_true]
      rw [wr_i64 (c + 1) (by omega) (by omega)]
      exact ⟨⟨by simp only; omega, by simp only; omega, by simp only; rw [hc, if_pos hb, h2]; rfl⟩, (by show (32 - (i + 1)).toNat < (32 - i).toNat; omega)⟩
    | false =>
      simp only [cnd_false]
      exact ⟨⟨by simp only; omega, by simp only; omega, by simp only; rw [hc, if_neg (by simp [hb]), h2]; rfl⟩, (by show (32 - (i + 1)).toNat < (32 - i).toNat; omega)⟩
  · simp only [hi, decide_false, cnd_false]
    show some c = some (cnt m)
    rw [h2, show i.toNat = 32 by omega]; rfl

theorem fold_or_ok : ∀ (l : List PSPhase) (s : Int), U32ok s → (∀ p ∈ l, U32ok p.1) → U32ok (l.foldl (fun s p => bitop .or .u32 s p.1) s)
  | [], _, h, _ => h
  | p :: l, s, h, hl => fold_or_ok l _ (or_ok h (hl p (by simp))) fun q hq => hl q (by simp [hq])

theorem refPhases_s {x : PSSite} (hx : SFits x) (hs : GShape x) : ∃ b, ref05_phases_t x = some b ∧ (b = true ↔ (1 ≤ llen x.2.2.2.2.1 ∧ llen x.2.2.2.2.1 ≤ 8) ∧ PhasedOK x) := by
  unfold ref05_phases_t
  rw [letK_app, cnd_if]
  split
  · rename_i h
    refine ⟨false, rfl, fun hh => (by cases hh), fun hh => ?_⟩
    have := (refIn_iff (llen x.2.2.2.2.1) 1 8).2 hh.1
    simp [this] at h
  · rename_i h
    simp only [Bool.not_eq_true', Bool.not_eq_false] at h
    have h := (refIn_iff _ _ _).1 h
    have n1 := hs.n1
    have n2 := hs.n2
    refine iter_accQ (l := x.2.2.2.2.1) (fun a : Option Bool => ∃ b, a = some b ∧ (b = true ↔ (1 ≤ llen x.2.2.2.2.1 ∧ llen x.2.2.2.2.1 ≤ 8) ∧ PhasedOK x)) (fun _ p => PhaseOK x p) (fun s p => bitop .or .u32 s p.1) U32ok (fun s => (elimO (ref02_Count_t s) none (fun x2 => (some (x2 == (llen x.2.1)))))) (some false) ⟨by decide, by decide⟩ hx.p (fun s k p hI h0 hk hp => ?_) (fun s i hI hi => by simp [hi, cnd]) (fun hall => ?_) (fun hn => ⟨false, rfl, fun hh => (by cases hh), fun hh => absurd hh.2.1 hn⟩)
    · obtain ⟨pu, pm⟩ := hx.ps p (idx_some_iff hp).2.2
      simp only [hk, decide_true, cnd_true, hp, elimO_some]
      by_cases c1 : ((p.1 == 0) || (decide ((shlop Go.IntKind.u32 1 (wr .u64 (llen x.2.1))) ≤ p.1))) = true
      · refine .inr ⟨fun hh => ?_, by simp only [c1, cnd_true]⟩
        have b := (below_iff pu (by omega) n2).2 hh.hi
        simp [hh.ne] at c1
        omega
      · have c1' := Bool.eq_false_iff.2 c1
        simp only [c1', cnd_false]
        simp only [Bool.or_eq_false_iff, beq_eq_false_iff_ne, ne_eq, decide_eq_false_iff_not] at c1'
        obtain ⟨hne, hlt⟩ := c1'
        have hhi := (below_iff pu (by omega) n2).1 hlt
        refine iter_ind (fun z => 0 ≤ z.2.2 ∧ z.2.2 ≤ llen x.2.1 ∧ U32ok z.1 ∧ (∀ j, bitI z.1 j = (bitI s j || (bitI p.1 j && decide (j < z.2.2)))) ∧ 1 ≤ z.2.1 ∧ (∀ j g, j < z.2.2 → bitI p.1 j = true → idx x.2.1 j = some g → g.2.1 ≤ z.2.1) ∧ (z.2.1 = 1 ∨ ∃ j g, j < z.2.2 ∧ bitI p.1 j = true ∧ idx x.2.1 j = some g ∧ z.2.1 = g.2.1) ∧ (∀ j sj, j < z.2.2 → bitI p.1 j = true → idx x.2.2.1 j = some sj → bitop .and .u32 sj p.1 = 0))
          (fun z => (llen x.2.1 - z.2.2).toNat) (fun a : Step (Int × Int) (Option Bool) => (PhaseOK x p ∧ a = .next (bitop .or .u32 s p.1, wr .i64 (k + 1)) ∧ U32ok (bitop .or .u32 s p.1)) ∨ (¬ PhaseOK x p ∧ a = .done (some false))) ?_ lots (s, (1, 0)) ⟨by simp, by simp only; omega, hI, fun j => (by cases hb : bitI p.1 j with | false => simp | true => (have := bit_groupG hs pu hhi hb; have e : decide (j < 0) = false := by simp; omega); simp only [e]; simp), by simp, fun j g hj _ hg => absurd (idx_some_iff hg).1 (by simp only at hj; omega), .inl rfl, fun j sj hj _ hg => absurd (idx_some_iff hg).1 (by simp only at hj; omega)⟩ (by rw [lots_eq]; simp only; omega)
        rintro ⟨m, mm, i⟩ ⟨i0, i1, mu, mb, m1, ml, me, ma⟩
        simp only at i0 i1 mu mb m1 ml me ma
        by_cases hi : i < llen x.2.1
        · simp only [hi, decide_true, cnd_true, letK, refHas_eq pu]
          rw [wr_i64 (i + 1) (by omega) (by omega)]
          cases hb : bitI p.1 i with
          | false =>
            simp only [Bool.not_false, cnd_true]
            refine ⟨⟨by simp only; omega, by simp only; omega, mu, fun j => ?_, m1, fun j g hj hbj hg => ?_, ?_, fun j sj hj hbj hg => ?_⟩, (by show (llen x.2.1 - (i + 1)).toNat < (llen x.2.1 - i).toNat; omega)⟩
            · simp only
              rw [mb j]
              by_cases e : j = i
              · subst e; simp [hb]
              · have : decide (j < i + 1) = decide (j < i) := by rw [decide_eq_decide]; omega
                rw [this]
            · simp only at hj ⊢
              have : j ≠ i := fun e => by subst e; rw [hb] at hbj; cases hbj
              exact ml j g (by omega) hbj hg
            · rcases me with me | ⟨j, g, a, b, c, d⟩
              · exact .inl me
              · exact .inr ⟨j, g, by simp only; omega, b, c, d⟩
            · simp only at hj
              have : j ≠ i := fun e => by subst e; rw [hb] at hbj; cases hbj
              exact ma j sj (by omega) hbj hg
          | true =>
            obtain ⟨g, hg, hgm⟩ := idx_get i0 hi
            obtain ⟨sa, hsa, hsam⟩ := idx_get (l := x.2.2.1) i0 (by have := hs.a; omega)
            have us := hx.as sa hsam
            simp only [Bool.not_true, cnd_false, hg, elimO_some]
            refine iter_ind (fun q => 0 ≤ q ∧ q ≤ llen x.2.1 ∧ ∀ b, b < q → bitI sa b = true → bitI p.1 b = true → False) (fun q => (llen x.2.1 - q).toNat) (fun z : Step (Int × Int × Int) (Step (Int × Int) (Option Bool)) => Round (fun z => 0 ≤ z.2.2 ∧ z.2.2 ≤ llen x.2.1 ∧ U32ok z.1 ∧ (∀ j, bitI z.1 j = (bitI s j || (bitI p.1 j && decide (j < z.2.2)))) ∧ 1 ≤ z.2.1 ∧ (∀ j g, j < z.2.2 → bitI p.1 j = true → idx x.2.1 j = some g → g.2.1 ≤ z.2.1) ∧ (z.2.1 = 1 ∨ ∃ j g, j < z.2.2 ∧ bitI p.1 j = true ∧ idx x.2.1 j = some g ∧ z.2.1 = g.2.1) ∧ (∀ j sj, j < z.2.2 → bitI p.1 j = true → idx x.2.2.1 j = some sj → bitop .and .u32 sj p.1 = 0))
              (fun z => (llen x.2.1 - z.2.2).toNat) (fun a : Step (Int × Int) (Option Bool) => (PhaseOK x p ∧ a = .next (bitop .or .u32 s p.1, wr .i64 (k + 1)) ∧ U32ok (bitop .or .u32 s p.1)) ∨ (¬ PhaseOK x p ∧ a = .done (some false))) (llen x.2.1 - i).toNat z) ?_ lots 0 ⟨by omega, by omega, fun b hb0 _ hbp => by have := (bit_groupG hs pu hhi hbp).1; omega⟩ (by rw [lots_eq]; omega)
            rintro q ⟨q0, q1, qh⟩
            by_cases hq : q < llen x.2.1
            · simp only [hq, decide_true, cnd_true, refApart_s hx hsa, elimO_some]
              rw [wr_i64 (q + 1) (by omega) (by omega)]
              have nx : (bitI sa q = true → bitI p.1 q = true → False) → ∀ b, b < q + 1 → bitI sa b = true → bitI p.1 b = true → False := fun hn b hb1 => by
                by_cases e : b = q
                · subst e; exact hn
                · exact qh b (by omega)
              cases hp2 : bitI p.1 q with
              | false =>
                simp only [cnd_false]
                exact ⟨⟨by omega, by omega, nx (fun _ h => by rw [hp2] at h; cases h)⟩, (by show (llen x.2.1 - (q + 1)).toNat < (llen x.2.1 - q).toNat; omega)⟩
              | true =>
                simp only [cnd_true]
                cases ha2 : bitI sa q with
                | false =>
                  simp only [cnd_false]
                  exact ⟨⟨by omega, by omega, nx (fun h _ => by rw [ha2] at h; cases h)⟩, (by show (llen x.2.1 - (q + 1)).toNat < (llen x.2.1 - q).toNat; omega)⟩
                | true =>
                  simp only [cnd_true]
                  refine .inr ⟨fun hh => ?_, rfl⟩
                  exact (inter_zero us pu).1 (hh.bits i hb g sa hg hsa).2 q ha2 hp2
            · simp only [hq, decide_false, cnd_false, gmax_eq]
              obtain ⟨w1, w2⟩ := refWith_s mu i0 (by omega : i ≤ 31)
              refine ⟨⟨by simp only; omega, by simp only; omega, w1, fun j => ?_, by simp only; omega, fun j g' hj hbj hg' => ?_, ?_, fun j sj hj hbj hsj => ?_⟩, (by show (llen x.2.1 - (i + 1)).toNat < (llen x.2.1 - i).toNat; omega)⟩
              · simp only
                rw [w2, mb j]
                by_cases e : i = j
                · subst e; simp [hb]; right; omega
                · have : decide (j < i + 1) = decide (j < i) := by rw [decide_eq_decide]; omega
                  rw [this, decide_eq_false e, Bool.or_false]
              · simp only at hj ⊢
                by_cases e : j = i
                · subst e; rw [hg] at hg'; cases hg'; omega
                · have := ml j g' (by omega) hbj hg'; omega
              · simp only
                rcases Int.le_total mm g.2.1 with hle | hle
                · rw [Int.max_eq_right hle]; exact .inr ⟨i, g, by omega, hb, hg, rfl⟩
                · rw [Int.max_eq_left hle]
                  rcases me with me | ⟨j, g', a, b, c, d⟩
                  · exact .inl me
                  · exact .inr ⟨j, g', by omega, b, c, d⟩
              · simp only at hj
                by_cases e : j = i
                · subst e; rw [hsa] at hsj; cases hsj
                  exact (inter_zero us pu).2 fun b h1 h2 => qh b (by have := (bit_groupG hs pu hhi h2).2; omega) h1 h2
                · exact ma j sj (by omega) hbj hsj
        · simp only [hi, decide_false, cnd_false, letK]
          have em : m = bitop .or .u32 s p.1 := bit_ext mu (or_ok hI pu) fun j _ _ => by
            rw [mb j, bit_or hI pu]
            cases hb : bitI p.1 j with
            | false => simp
            | true =>
              have := (bit_groupG hs pu hhi hb).2
              rw [decide_eq_true (by omega : j < i)]; simp
          have ok : PhaseOK x p ↔ ((mm ≤ p.2.1 ∧ p.2.1 ≤ 1048576) ∧ (p.2.1 ≤ p.2.2.1 ∧ p.2.2.1 ≤ 1048576) ∧ (1 ≤ p.2.2.2.1 ∧ p.2.2.2.1 ≤ 1048576)) := by
            constructor
            · intro hh
              refine ⟨⟨?_, hh.min.2⟩, ⟨hh.le, hh.max.2⟩, hh.gap⟩
              rcases me with me | ⟨j, g, a, b, c, d⟩
              · have := hh.min.1; omega
              · obtain ⟨sa, hsa, _⟩ := idx_get (l := x.2.2.1) (idx_some_iff c).1 (by have := (idx_some_iff c).2.1; have := hs.a; omega)
                have := (hh.bits j b g sa c hsa).1; omega
            · rintro ⟨a1, a2, a3⟩
              refine ⟨hne, hhi, ⟨by omega, a1.2⟩, ⟨by omega, a2.2⟩, a3, a2.1, fun a hb g sa hg hsa => ?_⟩
              have ha := (bit_groupG hs pu hhi hb).2
              have := ml a g (by omega) hb hg
              exact ⟨by omega, ma a sa (by omega) hb hsa⟩
          by_cases c : (((!(ref05_in (p.2.1, (mm, 1048576)))) || (!(ref05_in (p.2.2.1, (p.2.1, 1048576))))) || (!(ref05_in (p.2.2.2.1, (1, 1048576))))) = true
          · refine .inr ⟨fun hh => ?_, by simp only [c, cnd_true]⟩
            have hh := ok.1 hh
            rw [(refIn_iff _ _ _).2 hh.1, (refIn_iff _ _ _).2 hh.2.1, (refIn_iff _ _ _).2 hh.2.2] at c
            cases c
          · have c' := Bool.eq_false_iff.2 c
            refine .inl ⟨ok.2 ?_, by simp only [c', cnd_false, em], or_ok hI pu⟩
            simp only [Bool.or_eq_false_iff, Bool.not_eq_false'] at c'
            exact ⟨(refIn_iff _ _ _).1 c'.1.1, (refIn_iff _ _ _).1 c'.1.2, (refIn_iff _ _ _).1 c'.2⟩
    · have ua : U32ok (allOf x) := fold_or_ok x.2.2.2.2.1 0 ⟨by decide, by decide⟩ fun p hp => (hx.ps p hp).1
      show ∃ b, elimO (ref02_Count_t (allOf x)) none _ = some b ∧ _
      rw [refCount_s ua, elimO_some]
      refine ⟨_, rfl, ?_⟩
      rw [beq_iff_eq]
      exact ⟨fun hh => ⟨h, hall, hh⟩, fun hh => hh.2.2⟩

/-! ## what lies between, and what a phase needs -/
theorem refClear_s {x : PSSite} (hx : SFits x) (hs : ShapeOK x) {f t : Int} {pf pt : PSPhase} (hf : idx x.2.2.2.2.1 f = some pf) (ht : idx x.2.2.2.2.1 t = some pt) :
    ∃ m, ref05_Clear_t (x, (f, t)) = some m ∧ ClearIs x pf pt (llen x.2.1) m := by
  obtain ⟨uf, _⟩ := hx.ps pf (idx_some_iff hf).2.2
  obtain ⟨ut, _⟩ := hx.ps pt (idx_some_iff ht).2.2
  have n2 := hs.n2
  unfold ref05_Clear_t
  refine iter_ind (fun s => 0 ≤ s.2 ∧ s.2 ≤ llen x.2.1 ∧ ClearIs x pf pt s.2 s.1) (fun s => (llen x.2.1 - s.2).toNat) (fun a : Option Int => ∃ m, a = some m ∧ ClearIs x pf pt (llen x.2.1) m) ?_ lots (0, 0) ⟨by simp, llen_nonneg _, by simp, fun a v h0 h1 => by simp only at h1; omega, .inl rfl⟩ (by rw [lots_eq]; simp only; omega)
  rintro ⟨m, a⟩ ⟨h0, h1, h2, h3, h4⟩
  simp only at h0 h1 h2 h3 h4
  by_cases ha : a < llen x.2.1
  · obtain ⟨sa, hsa, hsam⟩ := idx_get (l := x.2.2.1) h0 (by rw [hs.a]; exact ha)
    obtain ⟨r, hr, _⟩ := idx_get (l := x.2.2.2.1) h0 (by rw [hs.b]; exact ha)
    have hrl := hs.rows a r hr
    simp only [ha, decide_true, cnd_true]
    refine iter_ind (fun z => 0 ≤ z.2 ∧ z.2 ≤ llen x.2.1 ∧ m ≤ z.1 ∧ (∀ b v, b < z.2 → bitI pf.1 a = true → bitI sa b = true → bitI pt.1 b = true → idx r b = some v → v ≤ z.1) ∧ (z.1 = m ∨ Pair x pf pt a z.1)) (fun z => (llen x.2.1 - z.2).toNat) (fun z : Step (Int × Int) (Option Int) => Round (fun s => 0 ≤ s.2 ∧ s.2 ≤ llen x.2.1 ∧ ClearIs x pf pt s.2 s.1) (fun s => (llen x.2.1 - s.2).toNat) (fun a : Option Int => ∃ m, a = some m ∧ ClearIs x pf pt (llen x.2.1) m) (llen x.2.1 - a).toNat z) ?_ lots (m, 0) ⟨by simp, by simp only; omega, by simp, fun b v hb _ _ _ hv => absurd (idx_some_iff hv).1 (by simp only at hb; omega), .inl rfl⟩ (by rw [lots_eq]; simp only; omega)
    rintro ⟨m', b⟩ ⟨b0, b1, b2, b3, b4⟩
    simp only at b0 b1 b2 b3 b4
    by_cases hb : b < llen x.2.1
    · obtain ⟨v, hv, _⟩ := idx_get (l := r) b0 (by omega)
      simp only [hb, decide_true, cnd_true, hf, ht, elimO_some, letK, refHas_eq uf, refHas_eq ut, refApart_s hx hsa, hr, hv]
      rw [wr_i64 (b + 1) (by omega) (by omega)]
      have same : (bitI pf.1 a = true → bitI sa b = true → bitI pt.1 b = true → False) → Round (fun z => 0 ≤ z.2 ∧ z.2 ≤ llen x.2.1 ∧ m ≤ z.1 ∧ (∀ b v, b < z.2 → bitI pf.1 a = true → bitI sa b = true → bitI pt.1 b = true → idx r b = some v → v ≤ z.1) ∧ (z.1 = m ∨ Pair x pf pt a z.1)) (fun z => (llen x.2.1 - z.2).toNat) (fun z : Step (Int × Int) (Option Int) => Round (fun s => 0 ≤ s.2 ∧ s.2 ≤ llen x.2.1 ∧ ClearIs x pf pt s.2 s.1) (fun s => (llen x.2.1 - s.2).toNat) (fun a : Option Int => ∃ m, a = some m ∧ ClearIs x pf pt (llen x.2.1) m) (llen x.2.1 - a).toNat z) (llen x.2.1 - b).toNat (.next (m', b + 1)) := fun hn => by
        refine ⟨⟨by simp only; omega, by simp only; omega, b2, fun b' v' hb' c1 c2 c3 hv' => ?_, b4⟩, (by show (llen x.2.1 - (b + 1)).toNat < (llen x.2.1 - b).toNat; omega)⟩
        simp only at hb' ⊢
        by_cases e : b' = b
        · subst e; exact (hn c1 c2 c3).elim
        · exact b3 b' v' (by omega) c1 c2 c3 hv'
      rcases Bool.eq_false_or_eq_true (bitI pf.1 a) with ea | ea
      · rw [cnd_pos _ _ ea]
        rcases Bool.eq_false_or_eq_true (bitI pt.1 b) with eb | eb
        · rw [cnd_pos _ _ eb]
          rcases Bool.eq_false_or_eq_true (bitI sa b) with ec | ec
          · rw [cnd_pos _ _ ec, gmax_eq]
            refine ⟨⟨by simp only; omega, by simp only; omega, by simp only; omega, fun b' v' hb' c1 c2 c3 hv' => ?_, ?_⟩, (by show (llen x.2.1 - (b + 1)).toNat < (llen x.2.1 - b).toNat; omega)⟩
            · simp only at hb' ⊢
              by_cases e : b' = b
              · subst e; rw [hv] at hv'; cases hv'; omega
              · have := b3 b' v' (by omega) c1 c2 c3 hv'; omega
            · simp only
              rcases Int.le_total m' v with hle | hle
              · rw [Int.max_eq_right hle]; exact .inr ⟨ea, sa, r, b, hsa, hr, ec, eb, hv⟩
              · rw [Int.max_eq_left hle]; exact b4
          · rw [cnd_neg _ _ ec]; exact same (fun _ h _ => by rw [ec] at h; cases h)
        · rw [cnd_neg _ _ eb]; exact same (fun _ _ h => by rw [eb] at h; cases h)
      · rw [cnd_neg _ _ ea]; exact same (fun h => by rw [ea] at h; cases h)
    · simp only [hb, decide_false, cnd_false]
      rw [wr_i64 (a + 1) (by omega) (by omega)]
      refine ⟨⟨by simp only; omega, by simp only; omega, by simp only; omega, fun a' v a0 a1 hp => ?_, ?_⟩, (by show (llen x.2.1 - (a + 1)).toNat < (llen x.2.1 - a).toNat; omega)⟩
      · simp only at a1 ⊢
        by_cases e : a' = a
        · subst e
          obtain ⟨p1, s', r', b', e1, e2, e3, e4, e5⟩ := hp
          rw [hsa] at e1; cases e1
          rw [hr] at e2; cases e2
          exact b3 b' v (by have := (idx_some_iff e5).2.1; omega) p1 e3 e4 e5
        · have := h3 a' v a0 (by omega) hp; omega
      · simp only
        rcases b4 with rfl | b4
        · exact h4.imp id fun ⟨a', c1, c2, c3⟩ => ⟨a', c1, by omega, c3⟩
        · exact .inr ⟨a, h0, by omega, b4⟩
  · simp only [ha, decide_false, cnd_false]
    exact ⟨m, rfl, h2, fun a' v b0 b1 => h3 a' v b0 (by omega), h4.imp id fun ⟨a', c1, c2, c3⟩ => ⟨a', c1, by omega, c3⟩⟩

theorem refNeeds_s {x : PSSite} (hx : SFits x) (hs : ShapeOK x) (hap : ApartOK x) (hph : PhasedOK x) {i : Int} {p : PSPhase} (hp : idx x.2.2.2.2.1 i = some p) : ref05_needs_t (x, i) = some (needsV x i) := by
  obtain ⟨_, pn, m, hpn, hc, hv, _, _⟩ := needs_s hx hs hap hph hp
  obtain ⟨m', hm', hc'⟩ := refClear_s hx hs hp hpn
  cases clear_unique hc hc'
  have hl := clear_le hx hs hap hc
  have hmin := (hph.1 i p hp).min
  obtain ⟨i0, i1, _⟩ := idx_some_iff hp
  have hl1 := hs.p1
  have hl2 := hs.p2
  unfold ref05_needs_t
  have e : irem (wr .i64 (i + 1)) (llen x.2.2.2.2.1) = nextP x i := by
    rw [wr_i64 _ (by omega) (by omega)]; rfl
  have hz : (!(llen x.2.2.2.2.1 == 0)) = true := by simp; omega
  simp only [hp, elimO_some, hz, cnd_true, e, hm']
  rw [wr_i64 _ (by omega) (by omega), hv]

theorem refRound_s {x : PSSite} (hx : SFits x) (hs : ShapeOK x) (hap : ApartOK x) (hph : PhasedOK x) : ref05_Round_t x = some (roundV x) := by
  unfold ref05_Round_t
  have hp2 := hs.p2
  refine iter_ind (fun s => 0 ≤ s.2 ∧ s.2 ≤ llen x.2.2.2.2.1 ∧ s.1 = roundTo x s.2.toNat) (fun s => (llen x.2.2.2.2.1 - s.2).toNat) (fun a => a = some (roundV x)) ?_ lots (0, 0) ⟨by simp, llen_nonneg _, rfl⟩ (by rw [lots_eq]; simp only; omega)
  rintro ⟨m, i⟩ ⟨h0, h1, h2⟩
  simp only at h0 h1 h2
  by_cases hi : i < llen x.2.2.2.2.1
  · obtain ⟨p, hp, _⟩ := idx_get h0 hi
    obtain ⟨_, _, _, _, _, _, n1, n2⟩ := needs_s hx hs hap hph hp
    have hr := roundTo_le hx hs hap hph i.toNat (by unfold llen at hi; omega)
    simp only [hi, decide_true, cnd_true, refNeeds_s hx hs hap hph hp, elimO_some]
    rw [wr_i64 (m + _) (by omega) (by omega), wr_i64 (i + 1) (by omega) (by omega)]
    refine ⟨⟨by simp only; omega, by simp only; omega, ?_⟩, (by show (llen x.2.2.2.2.1 - (i + 1)).toNat < (llen x.2.2.2.2.1 - i).toNat; omega)⟩
    simp only
    rw [show (i + 1).toNat = i.toNat + 1 by omega, roundTo, ← h2, show ((i.toNat : Nat) : Int) = i by omega]
  · simp only [hi, decide_false, cnd_false]
    show some m = _
    rw [h2]; unfold roundV; congr 2; unfold llen at h1 hi; omega

theorem refPlanMay_s {x : PSSite} (hx : SFits x) (hs : ShapeOK x) (hap : ApartOK x) (hph : PhasedOK x) (hlow : 1 ≤ x.2.2.2.2.2.2.2.2.2.1) (hhigh : x.2.2.2.2.2.2.2.2.2.2.1 ≤ 1048576) {p : PSPlan} : ∃ b, ref05_PlanMay_t (x, p) = some b ∧ (b = true ↔ PlanOK x p) := by
  unfold ref05_PlanMay_t
  simp only [letK]
  rw [cnd_if]
  split
  · rename_i h
    refine ⟨false, rfl, fun hh => (by cases hh), fun hh => ?_⟩
    exfalso
    have c1 := hh.cycle
    have t1 := (refIn_iff p.1 _ _).2 hh.cycle
    have hw : wr .i64 (p.1 - 1) = p.1 - 1 := wr_i64 _ (by omega) (by omega)
    have t2 := (refIn_iff p.2.1 0 (p.1 - 1)).2 hh.offset
    have t3 := hh.len
    simp [t1, hw, t2, t3] at h
  · rename_i h
    simp only [Bool.or_eq_true, Bool.not_eq_true', beq_eq_false_iff_ne, not_or, Bool.not_eq_false, ne_eq, Decidable.not_not] at h
    obtain ⟨⟨g1, g2⟩, g3⟩ := h
    have g1 := (refIn_iff _ _ _).1 g1
    have hw : wr .i64 (p.1 - 1) = p.1 - 1 := wr_i64 _ (by omega) (by omega)
    rw [hw] at g2
    have g2 := (refIn_iff _ _ _).1 g2
    have hp2 := hs.p2
    refine iter_ind (fun s => 0 ≤ s.2 ∧ s.2 ≤ llen p.2.2 ∧ s.1 = leftTo p s.2.toNat ∧ 0 ≤ s.1 ∧ s.1 ≤ 1048576 ∧ ∀ n : Nat, (n : Int) < s.2 → needsV x (n : Int) ≤ el p.2.2 (n : Int) ∧ el p.2.2 (n : Int) ≤ leftTo p n) (fun s => (llen p.2.2 - s.2).toNat) (fun a : Option Bool => ∃ b, a = some b ∧ (b = true ↔ PlanOK x p)) ?_ lots (p.1, 0) ⟨by simp, llen_nonneg _, rfl, by simp only; omega, by simp only; omega, fun n h => by simp only at h; omega⟩ (by rw [lots_eq]; simp only; omega)
    rintro ⟨m, i⟩ ⟨h0, h1, h2, h3, h4, h5⟩
    simp only at h0 h1 h2 h3 h4 h5
    by_cases hi : i < llen p.2.2
    · obtain ⟨ph, hpp, _⟩ := idx_get (l := x.2.2.2.2.1) h0 (by omega)
      obtain ⟨_, _, _, _, _, _, n1, n2⟩ := needs_s hx hs hap hph hpp
      have hin : ((i.toNat : Nat) : Int) = i := by omega
      simp only [hi, decide_true, cnd_true, idx_el h0 hi, refNeeds_s hx hs hap hph hpp, elimO_some]
      by_cases hc : ref05_in (el p.2.2 i, (needsV x i, m)) = true
      · have hc' := (refIn_iff _ _ _).1 hc
        simp only [hc, Bool.not_true, cnd_false]
        rw [wr_i64 (m - _) (by omega) (by omega), wr_i64 (i + 1) (by omega) (by omega)]
        refine ⟨⟨by simp only; omega, by simp only; omega, ?_, by simp only; omega, by simp only; omega, fun n hn' => ?_⟩, (by show (llen p.2.2 - (i + 1)).toNat < (llen p.2.2 - i).toNat; omega)⟩
        · simp only
          rw [show (i + 1).toNat = i.toNat + 1 by omega, leftTo, ← h2, hin]
        · simp only at hn'
          by_cases e : (n : Int) = i
          · have e2 : n = i.toNat := by omega
            rw [e]
            refine ⟨hc'.1, ?_⟩
            rw [e2, ← h2]; exact hc'.2
          · exact h5 n (by omega)
      · have hc' := Bool.eq_false_iff.2 hc
        simp only [hc', Bool.not_false, cnd_true]
        refine ⟨false, rfl, fun hh => (by cases hh), fun hh => ?_⟩
        have := hh.split i.toNat (by omega)
        rw [hin, ← h2] at this
        exact absurd ((refIn_iff _ _ _).2 this) hc
    · simp only [hi, decide_false, cnd_false]
      refine ⟨_, rfl, ?_⟩
      have hl : i.toNat = p.2.2.length := by unfold llen at h1 hi; omega
      rw [beq_iff_eq, h2, hl]
      exact ⟨fun h => ⟨g1, g2, g3, fun n hn => h5 n (by omega), h⟩, fun h => h.all⟩

/-! ## a site -/
theorem refCheck_s {x : PSSite} (hx : SFits x) : ∃ e, ref05_Check_t x = some e ∧ ((e = 0 ∧ SiteOK x) ∨ (e = 50 ∧ ¬ SiteOK x)) := by
  have bad : ¬ SiteOK x → ∃ e, (some (50 : Int)) = some e ∧ ((e = 0 ∧ SiteOK x) ∨ (e = 50 ∧ ¬ SiteOK x)) := fun h => ⟨50, rfl, .inr ⟨rfl, h⟩⟩
  unfold ref05_Check_t
  obtain ⟨b1, h1, k1⟩ := refGroups_s hx
  rw [elimO_eq _ _ h1]
  cases b1 with
  | false => exact bad fun hh => by have := k1.2 ⟨hh.id, hh.shape.g, hh.apart⟩; cases this
  | true =>
  obtain ⟨hid, hg, hap⟩ := k1.1 rfl
  obtain ⟨b2, h2, k2⟩ := refPhases_s hx hg
  rw [cnd_neg _ _ (by rfl), elimO_eq _ _ h2]
  cases b2 with
  | false => exact bad fun hh => by have := k2.2 ⟨⟨hh.shape.p1, hh.shape.p2⟩, hh.phased⟩; cases this
  | true =>
  obtain ⟨⟨p1, p2⟩, hph⟩ := k2.1 rfl
  rw [cnd_if]
  split
  · rename_i h
    refine bad fun hh => ?_
    have := hh.shape.e; have := hh.shape.q
    simp at h
    omega
  rename_i h
  simp only [Bool.not_true, Bool.false_or, Bool.or_eq_true, decide_eq_true_eq, not_or, Int.not_lt] at h
  have hs : ShapeOK x := ⟨hg.n1, hg.n2, hg.a, hg.b, p1, p2, h.1, h.2, hg.rows, hg.aps⟩
  refine iter_allQ (l := x.2.2.2.2.2.1) (fun a : Option Int => ∃ e, a = some e ∧ ((e = 0 ∧ SiteOK x) ∨ (e = 50 ∧ ¬ SiteOK x))) (fun _ e => EyeOK x e) (some 50) _ hx.e (fun i e h0 hi he => ?_) (fun i hi => by rw [decide_eq_false hi, cnd_false]) (fun heyes => ?_) (fun hn => bad fun hh => hn hh.eyed)
  · have hw : wr .i64 (llen x.2.2.2.2.1 - 1) = llen x.2.2.2.2.1 - 1 := wr_i64 _ (by omega) (by omega)
    simp only [hi, decide_true, cnd_true, he, elimO_some, letK, hw]
    by_cases c : ((((!(ref05_in (e.1, (0, llen x.2.2.2.2.1 - 1)))) || (!(ref05_in (e.2.1, (1, 1048576))))) || (!(ref05_in (e.2.2.1, (1, 1048576))))) || (!(ref05_in (e.2.2.2, (1, 64))))) = true
    · refine .inr ⟨fun hh => ?_, by simp only [c, cnd_true]⟩
      rw [(refIn_iff _ _ _).2 hh.phase, (refIn_iff _ _ _).2 hh.on, (refIn_iff _ _ _).2 hh.off, (refIn_iff _ _ _).2 hh.turns] at c
      cases c
    · have c' := Bool.eq_false_iff.2 c
      refine .inl ⟨?_, by simp only [c', cnd_false]⟩
      simp only [Bool.or_eq_false_iff, Bool.not_eq_false'] at c'
      exact ⟨(refIn_iff _ _ _).1 c'.1.1.1, (refIn_iff _ _ _).1 c'.1.1.2, (refIn_iff _ _ _).1 c'.1.2, (refIn_iff _ _ _).1 c'.2⟩
  · rw [letK_app, cnd_if]
    split
    · rename_i c
      refine bad fun hh => ?_
      rw [(refIn_iff _ _ _).2 hh.timed.watch, (refIn_iff _ _ _).2 hh.timed.feed, (refIn_iff _ _ _).2 hh.timed.heal] at c
      cases c
    rename_i c
    have c := Bool.eq_false_iff.2 c
    simp only [Bool.or_eq_false_iff, Bool.not_eq_false'] at c
    have t1 := (refIn_iff _ _ _).1 c.1.1
    have t2 := (refIn_iff _ _ _).1 c.1.2
    have t3 := (refIn_iff _ _ _).1 c.2
    rw [elimO_eq _ _ (refRound_s hx hs hap hph), letK_app, cnd_if]
    have hr0 : 1 ≤ roundV x := by
      obtain ⟨p, hp, _⟩ := idx_get (l := x.2.2.2.2.1) (i := 0) (by omega) (by omega)
      have n1 := (needs_s hx hs hap hph hp).2
      obtain ⟨_, _, _, _, _, n1, _⟩ := n1
      have : ∀ n : Nat, 1 ≤ n → n ≤ x.2.2.2.2.1.length → 1 ≤ roundTo x n := fun n h1 h2 => by
        cases n with
        | zero => omega
        | succ n =>
          obtain ⟨q, hq, _⟩ := idx_get (l := x.2.2.2.2.1) (i := (n : Int)) (by omega) (by unfold llen; omega)
          obtain ⟨_, _, _, _, _, _, n2, _⟩ := needs_s hx hs hap hph hq
          have := (roundTo_le hx hs hap hph n (by omega)).1
          simp only [roundTo]; omega
      exact this _ (by unfold llen at p1; omega) (Nat.le_refl _)
    split
    · rename_i c
      refine bad fun hh => ?_
      rw [(refIn_iff _ _ _).2 ⟨hh.timed.round, hh.timed.low.2⟩, (refIn_iff _ _ _).2 ⟨hh.timed.le, hh.timed.high.2⟩] at c
      cases c
    rename_i c
    have c := Bool.eq_false_iff.2 c
    simp only [Bool.or_eq_false_iff, Bool.not_eq_false'] at c
    have t4 := (refIn_iff _ _ _).1 c.1
    have t5 := (refIn_iff _ _ _).1 c.2
    have hti : TimedOK x := ⟨t1, t2, t3, ⟨by omega, t4.2⟩, ⟨by omega, t5.2⟩, t4.1, t5.1⟩
    refine iter_allQ (l := x.2.2.2.2.2.2.2.2.2.2.2) (fun a : Option Int => ∃ e, a = some e ∧ ((e = 0 ∧ SiteOK x) ∨ (e = 50 ∧ ¬ SiteOK x))) (fun _ p => PlanOK x p) (some 50) (some 0) hx.q (fun i p h0 hi hp => ?_) (fun i hi => by simp [hi, cnd]) (fun hpl => ⟨0, rfl, .inl ⟨rfl, hid, hs, hap, hph, heyes, hti, hpl⟩⟩) (fun hn => bad fun hh => hn hh.planned)
    obtain ⟨b, e1, e2⟩ := refPlanMay_s hx hs hap hph hti.low.1 hti.high.2 (p := p)
    simp only [hi, decide_true, cnd_true, hp, elimO_some, e1]
    cases b with
    | true => exact .inl ⟨e2.1 rfl, rfl⟩
    | false => exact .inr ⟨fun hh => (by have := e2.2 hh; cases this), rfl⟩

theorem refCheck_eq {x : PSSite} (hx : SFits x) : ref05_Check_t x = site_Check_t x := by
  obtain ⟨e, h1, h2⟩ := refCheck_s hx
  obtain ⟨e', h1', h2'⟩ := check_s hx
  rw [h1, h1']
  rcases h2 with ⟨rfl, h⟩ | ⟨rfl, h⟩ <;> rcases h2' with ⟨rfl, h'⟩ | ⟨rfl, h'⟩
  · rfl
  · exact absurd h h'
  · exact absurd h' h
  · rfl

end Go.Proofs.YtfdnmjabjmedgaaDoor
