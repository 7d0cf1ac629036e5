/- Part of a proof: plain readings of Go functions, their contracts, or plain facts of them. -/
import Derived.Test.YtfdnmjabjmedgaaDoorPlqP
namespace Go.Proofs.YtfdnmjabjmedgaaDoor
open Go.Den

theorem in_iff (a b c : Int) : site_in (a, (b, c)) = true ↔ b ≤ a ∧ a ≤ c := by
  unfold site_in; simp

/-- lists of a site fit -/
structure SFits (x : PSSite) : Prop where
  id : -9223372036854775808 ≤ x.1 ∧ x.1 ≤ 9223372036854775807
  g : x.2.1.length ≤ maxLen
  gs : ∀ g ∈ x.2.1, (0 ≤ g.1 ∧ g.1 ≤ 255) ∧ (-9223372036854775808 ≤ g.2.1 ∧ g.2.1 ≤ 9223372036854775807) ∧ (-9223372036854775808 ≤ g.2.2 ∧ g.2.2 ≤ 9223372036854775807)
  a : x.2.2.1.length ≤ maxLen
  as : ∀ s ∈ x.2.2.1, U32ok s
  b : x.2.2.2.1.length ≤ maxLen
  bs : ∀ r ∈ x.2.2.2.1, r.length ≤ maxLen ∧ ∀ m ∈ r, -9223372036854775808 ≤ m ∧ m ≤ 9223372036854775807
  p : x.2.2.2.2.1.length ≤ maxLen
  ps : ∀ p ∈ x.2.2.2.2.1, U32ok p.1 ∧ (-9223372036854775808 ≤ p.2.1 ∧ p.2.1 ≤ 9223372036854775807)
  e : x.2.2.2.2.2.1.length ≤ maxLen
  q : x.2.2.2.2.2.2.2.2.2.2.2.length ≤ maxLen
  qs : ∀ p ∈ x.2.2.2.2.2.2.2.2.2.2.2, (-9223372036854775808 ≤ p.1 ∧ p.1 ≤ 9223372036854775807) ∧ p.2.2.length ≤ maxLen ∧ ∀ m ∈ p.2.2, -9223372036854775808 ≤ m ∧ m ≤ 9223372036854775807

theorem sfits {x : PSSite} (h : Fits SSite x) : SFits x := by
  obtain ⟨h1, ⟨h2, h2'⟩, ⟨h3, h3'⟩, ⟨h4, h4'⟩, ⟨h5, h5'⟩, ⟨h6, _⟩, _, _, _, _, _, ⟨h7, h7'⟩⟩ := h
  exact ⟨h1, h2, fun g hg => h2' g hg, h3, fun s hs => h3' s hs, h4, fun r hr => ⟨(h4' r hr).1, fun m hm => (h4' r hr).2 m hm⟩, h5, fun p hp => ⟨(h5' p hp).1, (h5' p hp).2.1⟩, h6, h7,
    fun p hp => ⟨(h7' p hp).1, (h7' p hp).2.2.1, fun m hm => (h7' p hp).2.2.2 m hm⟩⟩

/-- as long as must be -/
structure ShapeOK (x : PSSite) : Prop where
  n1 : 1 ≤ llen x.2.1
  n2 : llen x.2.1 ≤ 16
  a : llen x.2.2.1 = llen x.2.1
  b : llen x.2.2.2.1 = llen x.2.1
  p1 : 1 ≤ llen x.2.2.2.2.1
  p2 : llen x.2.2.2.2.1 ≤ 8
  e : llen x.2.2.2.2.2.1 ≤ 24
  q : llen x.2.2.2.2.2.2.2.2.2.2.2 ≤ 8
  rows : ∀ i r, idx x.2.2.2.1 i = some r → llen r = llen x.2.1
  aps : ∀ i s, idx x.2.2.1 i = some s → shrop .u32 s (llen x.2.1) = 0

theorem shape_s {x : PSSite} (hx : SFits x) : ∃ b, site_shape_t x = some b ∧ (b = true ↔ ShapeOK x) := by
  unfold site_shape_t
  simp only [letK]
  rw [cnd_if]
  split
  · rename_i h
    refine ⟨false, rfl, fun hh => (by cases hh), fun hh => ?_⟩
    exfalso
    have i1 := (in_iff (llen x.2.1) 1 16).2 ⟨hh.n1, hh.n2⟩
    have i2 := (in_iff (llen x.2.2.2.2.1) 1 8).2 ⟨hh.p1, hh.p2⟩
    have := hh.e; have := hh.q
    simp [i1, i2, hh.a, hh.b] at h
    omega
  · rename_i h
    simp only [Bool.or_eq_true, Bool.not_eq_true', decide_eq_true_eq, beq_eq_false_iff_ne, not_or, Bool.not_eq_false, ne_eq, Int.not_lt, Decidable.not_not] at h
    obtain ⟨⟨⟨⟨⟨g1, g2⟩, g3⟩, g4⟩, g5⟩, g6⟩ := h
    have g1 := (in_iff _ _ _).1 g1
    have g4 := (in_iff _ _ _).1 g4
    obtain ⟨b, h1, h2⟩ := iter_allP (A := Option Bool) (l := x.2.2.2.1) (bad := none) (no := some false) (yes := some true) (f := fun x1 =>
(cnd (decide (x1 < (llen x.2.2.2.1)))
(elimO (idx x.2.2.2.1 x1) (.done none) (fun x2 =>
(cnd (!((llen x2) == (llen x.2.1)))
(.done (some false))
(elimO (idx x.2.2.1 x1) (.done none) (fun x3 =>
(cnd (decide (0 ≤ (llen x.2.1)))
(cnd (!((shrop Go.IntKind.u32 x3 (llen x.2.1)) == 0))
(.done (some false))
(.next (wr .i64 (x1 + 1))))
(.done none)))))))
(.done (some true)))) (fun i r => llen r = llen x.2.1 ∧ ∀ s, idx x.2.2.1 i = some s → shrop .u32 s (llen x.2.1) = 0) hx.b (fun i r h0 h1 hr => by
      obtain ⟨s, hs, _⟩ := idx_get (l := x.2.2.1) h0 (by omega)
      have hp : decide (0 ≤ llen x.2.1) = true := by simp; exact llen_nonneg _
      simp only [h1, decide_true, cnd, hr, elimO, hs, hp]
      by_cases e1 : llen r = llen x.2.1
      · by_cases e2 : shrop .u32 s (llen x.2.1) = 0
        · exact .inl ⟨⟨e1, fun s' hs' => by cases hs'; exact e2⟩, by simp only [beq_iff_eq.2 e1, beq_iff_eq.2 e2, Bool.not_true]⟩
        · exact .inr ⟨fun hh => e2 (hh.2 s rfl), by simp only [beq_iff_eq.2 e1, beq_false_of_ne e2, Bool.not_true, Bool.not_false]⟩
      · exact .inr ⟨fun hh => e1 hh.1, by simp only [beq_false_of_ne e1, Bool.not_false]⟩) (fun i hi => by simp [hi, cnd])
    rw [h1]
    refine ⟨b, by cases b <;> rfl, h2.trans ⟨fun hh => ⟨g1.1, g1.2, by simpa using g2, by simpa using g3, g4.1, g4.2, g5, g6, fun i r hr => (hh i r hr).1, fun i s hs => ?_⟩, fun hh i r hr => ⟨hh.rows i r hr, fun s hs => hh.aps i s hs⟩⟩⟩
    obtain ⟨i0, i1, _⟩ := idx_some_iff hs
    obtain ⟨r, hr, _⟩ := idx_get (l := x.2.2.2.1) i0 (by have g2' : llen x.2.2.1 = llen x.2.1 := by simpa using g2
                                                         have g3' : llen x.2.2.2.1 = llen x.2.1 := by simpa using g3
                                                         omega)
    exact (hh i r hr).2 s hs

/-! ## sets -/
theorem ring_bit_eq {i : Int} (h0 : 0 ≤ i) (h1 : i ≤ 31) : ring_bit i = ((2 ^ i.toNat : Nat) : Int) := by
  unfold ring_bit
  rw [cnd_if, if_neg (by simp; omega), shl1 h0 h1]

theorem ring_Has_eq {s i : Int} (hs : U32ok s) : ring_Has (s, i) = bitI s i := by
  unfold ring_Has
  simp only [letK]
  by_cases h : 0 ≤ i ∧ i ≤ 31
  · rw [ring_bit_eq h.1 h.2]
    have hp := pow_ok h.1 h.2
    apply Bool.eq_iff_iff.2
    rw [Bool.not_eq_true', beq_eq_false_iff_ne]
    constructor
    · intro hne
      cases hb : bitI s i with
      | true => rfl
      | false =>
        exfalso; apply hne
        refine bit_ext (and_ok hs hp) ⟨by decide, by decide⟩ fun j _ _ => ?_
        rw [bit_and hs hp, bit_pow h.1, bit_zero]
        by_cases e : i = j
        · subst e; simp [hb]
        · simp [e]
    · intro hb he
      have := bit_and hs hp i
      rw [he, bit_zero, hb, bit_pow h.1] at this
      simp at this
  · have hz : ring_bit i = 0 := by
      unfold ring_bit
      rw [cnd_if, if_pos (by simp; omega)]
    rw [hz]
    have : bitop .and .u32 s 0 = 0 := by
      refine bit_ext (and_ok hs ⟨by decide, by decide⟩) ⟨by decide, by decide⟩ fun j _ _ => ?_
      rw [bit_and hs ⟨by decide, by decide⟩, bit_zero]; simp
    rw [this]
    by_cases h2 : i < 0
    · rw [bit_neg h2]; rfl
    · rw [bit_high hs (by omega)]; rfl

theorem ring_Least_eq {x : Int} (h : x ≠ 0) : ring_Least x = low x := by
  unfold ring_Least
  rw [cnd_if, if_neg (by simpa using h)]
  rfl

theorem ring_Without_eq {x k : Int} (h0 : 0 ≤ k) (h1 : k ≤ 31) : ring_Without (x, k) = clr x k := by
  unfold ring_Without clr
  simp only [letK]
  rw [ring_bit_eq h0 h1]

theorem inter_zero {s p : Int} (hs : U32ok s) (hp : U32ok p) : bitop .and .u32 s p = 0 ↔ ∀ b, bitI s b = true → bitI p b = true → False := by
  constructor
  · intro h b h1 h2
    have := bit_and hs hp b
    rw [h, bit_zero, h1, h2] at this
    cases this
  · intro h
    refine bit_ext (and_ok hs hp) ⟨by decide, by decide⟩ fun j _ _ => ?_
    rw [bit_and hs hp, bit_zero]
    cases h1 : bitI s j with
    | false => rfl
    | true =>
      cases h2 : bitI p j with
      | false => rfl
      | true => exact (h j h1 h2).elim

/-! ## apart -/
structure GroupOK (x : PSSite) (a : Int) (g : PSGroup) : Prop where
  kind : g.1 = 1 ∨ g.1 = 2
  min : 1 ≤ g.2.1 ∧ g.2.1 ≤ 1048576
  yellow : 1 ≤ g.2.2 ∧ g.2.2 ≤ 1048576
  row : ∀ r sa b m sb, idx x.2.2.2.1 a = some r → idx x.2.2.1 a = some sa → idx r b = some m → idx x.2.2.1 b = some sb →
    bitI sa b = bitI sb a ∧ (bitI sa b = true → a ≠ b ∧ g.2.2 ≤ m ∧ m ≤ 1048576) ∧ (bitI sa b = false → m = 0)

def ApartOK (x : PSSite) : Prop := ∀ a g, idx x.2.1 a = some g → GroupOK x a g

theorem ticks2 (a b : Int) : site_ticks (a :: (b :: [])) = true ↔ (1 ≤ a ∧ a ≤ 1048576) ∧ (1 ≤ b ∧ b ≤ 1048576) := by
  unfold site_ticks; simp

theorem apart_s {x : PSSite} (hx : SFits x) (hs : ShapeOK x) : ∃ b, site_apart_t x = some b ∧ (b = true ↔ ApartOK x) := by
  unfold site_apart_t
  obtain ⟨b, h1, h2⟩ := iter_allP (A := Option Bool) (l := x.2.1) (bad := none) (no := some false) (yes := some true) (f := fun x1 =>
(cnd (decide (x1 < (llen x.2.1)))
(elimO (idx x.2.1 x1) (.done none) (fun x2 =>
(cnd (((!(x2.1 == 1)) && (!(x2.1 == 2))) || (!(site_ticks (x2.2.1 :: (x2.2.2 :: [])))))
(.done (some false))
(elimO (idx x.2.2.2.1 x1) (.done none) (fun x3 =>
(iter (.done none) (fun x4 =>
(cnd (decide (x4 < (llen x3)))
(elimO (idx x3 x4) (.done (.done none)) (fun x5 =>
(elimO (idx x.2.2.1 x1) (.done (.done none)) (fun x6 =>
(letK (ring_Has (x6, x4)) (fun y =>
(elimO (idx x.2.2.1 x4) (.done (.done none)) (fun x7 =>
(letK (ring_Has (x7, x1)) (fun y1 =>
(cnd (!(y == y1))
(.done (.done (some false)))
(cnd (y && (x1 == x4))
(.done (.done (some false)))
(cnd (y && (!(site_in (x5, (x2.2.2, 1048576)))))
(.done (.done (some false)))
(cnd ((!y) && (!(x5 == 0)))
(.done (.done (some false)))
(.next (wr .i64 (x4 + 1)))))))))))))))))
(.done (.next (wr .i64 (x1 + 1)))))) lots 0))))))
(.done (some true)))) (GroupOK x) hx.g (fun a g h0 ha hg => by
    obtain ⟨r, hr, hrm⟩ := idx_get (l := x.2.2.2.1) h0 (by rw [hs.b]; exact ha)
    obtain ⟨sa, hsa, hsam⟩ := idx_get (l := x.2.2.1) h0 (by rw [hs.a]; exact ha)
    have hrl := hs.rows a r hr
    simp only [ha, decide_true, cnd_true, hg, elimO_some, hr]
    by_cases hk : (((!(g.1 == 1)) && (!(g.1 == 2))) || (!(site_ticks (g.2.1 :: (g.2.2 :: []))))) = true
    · refine .inr ⟨fun hh => ?_, by simp only [hk, cnd_true]⟩
      have ht := (ticks2 g.2.1 g.2.2).2 ⟨hh.min, hh.yellow⟩
      have := hh.kind
      simp [ht] at hk
      omega
    · have hk' := Bool.eq_false_iff.2 hk
      simp only [hk', cnd_false]
      simp only [Bool.or_eq_false_iff, Bool.and_eq_false_iff, Bool.not_eq_false', beq_iff_eq] at hk'
      obtain ⟨k1, k2⟩ := hk'
      have k2 := (ticks2 _ _).1 k2
      obtain ⟨b, b1, b2⟩ := iter_allP (A := Step Int (Option Bool)) (l := r) (bad := .done none) (no := .done (some false)) (yes := .next (wr .i64 (a + 1))) (f := fun x4 =>
        (cnd (decide (x4 < (llen r)))
        (elimO (idx r x4) (.done (.done none)) (fun x5 =>
        (elimO (idx x.2.2.1 a) (.done (.done none)) (fun x6 =>
        (letK (ring_Has (x6, x4)) (fun y =>
        (elimO (idx x.2.2.1 x4) (.done (.done none)) (fun x7 =>
        (letK (ring_Has (x7, a)) (fun y1 =>
        (cnd (!(y == y1))
        (.done (.done (some false)))
        (cnd (y && (a == x4))
        (.done (.done (some false)))
        (cnd (y && (!(site_in (x5, (g.2.2, 1048576)))))
        (.done (.done (some false)))
        (cnd ((!y) && (!(x5 == 0)))
        (.done (.done (some false)))
        (.next (wr .i64 (x4 + 1)))))))))))))))))
        (.done (.next (wr .i64 (a + 1)))))) (fun b m => ∀ sb, idx x.2.2.1 b = some sb → bitI sa b = bitI sb a ∧ (bitI sa b = true → a ≠ b ∧ g.2.2 ≤ m ∧ m ≤ 1048576) ∧ (bitI sa b = false → m = 0)) (hx.bs r hrm).1 (fun b m h0' hb hm => by
          obtain ⟨sb, hsb, hsbm⟩ := idx_get (l := x.2.2.1) h0' (by rw [hs.a, ← hrl]; exact hb)
          simp only [hb, decide_true, cnd_true, hm, elimO_some, hsa, letK, hsb, ring_Has_eq (hx.as sa hsam), ring_Has_eq (hx.as sb hsbm)]
          have only : ∀ {p : Prop}, (∀ sb', some sb = some sb' → bitI sa b = bitI sb' a ∧ p) ↔ (bitI sa b = bitI sb a ∧ p) := fun {p} => ⟨fun h => h sb rfl, fun h sb' e => by cases e; exact h⟩
          rw [only]
          by_cases e1 : bitI sa b = bitI sb a
          · simp only [beq_iff_eq.2 e1, Bool.not_true]
            cases hbit : bitI sa b with
            | true =>
              by_cases e2 : a = b
              · refine .inr ⟨fun hh => (hh.2.1 rfl).1 e2, by simp only [cnd_true, cnd_false, beq_iff_eq.2 e2, Bool.and_self]⟩
              · by_cases e3 : site_in (m, (g.2.2, 1048576)) = true
                · have e3' := (in_iff _ _ _).1 e3
                  exact .inl ⟨⟨by rw [← e1, hbit], fun _ => ⟨e2, e3'⟩, fun h => (by cases h)⟩, by simp only [cnd_false, beq_false_of_ne e2, e3, Bool.and_false, Bool.not_true, Bool.false_and]⟩
                · have e3' := Bool.eq_false_iff.2 e3
                  exact .inr ⟨fun hh => e3 ((in_iff _ _ _).2 (hh.2.1 rfl).2), by simp only [cnd_true, cnd_false, beq_false_of_ne e2, e3', Bool.and_false, Bool.not_false, Bool.and_self]⟩
            | false =>
              by_cases e4 : m = 0
              · exact .inl ⟨⟨by rw [← e1, hbit], fun h => (by cases h), fun _ => e4⟩, by simp only [cnd_false, beq_iff_eq.2 e4, Bool.false_and, Bool.not_true, Bool.and_false]⟩
              · exact .inr ⟨fun hh => e4 (hh.2.2 rfl), by simp only [cnd_true, cnd_false, beq_false_of_ne e4, Bool.false_and, Bool.not_false, Bool.and_self]⟩
          · exact .inr ⟨fun hh => e1 hh.1, by simp only [cnd_true, beq_false_of_ne e1, Bool.not_false]⟩) (fun b hb => by simp [hb, cnd])
      have hgood : GroupOK x a g ↔ b = true := by
        rw [b2]
        constructor
        · intro hh b m hm sb hsb
          exact hh.row r sa b m sb hr hsa hm hsb
        · intro hh
          refine ⟨by omega, k2.1, k2.2, fun r' sa' b m sb e1 e2 e3 e4 => ?_⟩
          rw [hr] at e1; cases e1
          rw [hsa] at e2; cases e2
          exact hh b m e3 sb e4
      rw [b1]
      cases hbb : b with
      | true => exact .inl ⟨hgood.2 hbb, rfl⟩
      | false => exact .inr ⟨fun hh => (by rw [hgood.1 hh] at hbb; cases hbb), rfl⟩) (fun i hi => by simp [hi, cnd])
  rw [h1]
  exact ⟨b, by cases b <;> rfl, h2⟩

/-! ## phases -/
structure PhaseOK (x : PSSite) (p : PSPhase) : Prop where
  ne : p.1 ≠ 0
  hi : shrop .u32 p.1 (llen x.2.1) = 0
  min : 1 ≤ p.2.1 ∧ p.2.1 ≤ 1048576
  max : 1 ≤ p.2.2.1 ∧ p.2.2.1 ≤ 1048576
  gap : 1 ≤ p.2.2.2.1 ∧ p.2.2.2.1 ≤ 1048576
  le : p.2.1 ≤ p.2.2.1
  bits : ∀ a, bitI p.1 a = true → ∀ g s, idx x.2.1 a = some g → idx x.2.2.1 a = some s → g.2.1 ≤ p.2.1 ∧ bitop .and .u32 s p.1 = 0

def allOf (x : PSSite) : Int := x.2.2.2.2.1.foldl (fun s p => bitop .or .u32 s p.1) 0

def PhasedOK (x : PSSite) : Prop := (∀ k p, idx x.2.2.2.2.1 k = some p → PhaseOK x p) ∧ ring_Count (allOf x) = llen x.2.1

theorem ticks3 (a b c : Int) : site_ticks (a :: (b :: (c :: []))) = true ↔ (1 ≤ a ∧ a ≤ 1048576) ∧ (1 ≤ b ∧ b ≤ 1048576) ∧ (1 ≤ c ∧ c ≤ 1048576) := by
  unfold site_ticks; simp

/-- a set without high bits names groups alone -/
theorem bit_group {x : PSSite} (hs : ShapeOK x) {s : Int} (hu : U32ok s) (h : shrop .u32 s (llen x.2.1) = 0) {k : Int} (hk : bitI s k = true) : 0 ≤ k ∧ k < llen x.2.1 := by
  have h2 := (shr_zero hu (llen_nonneg x.2.1) (by have := hs.n2; omega)).1 h k
  refine ⟨?_, ?_⟩
  · apply Int.not_lt.1
    intro hn
    rw [bit_neg hn] at hk; cases hk
  · apply Int.not_le.1
    intro hn
    rw [h2 hn] at hk; cases hk

theorem phased_s {x : PSSite} (hx : SFits x) (hs : ShapeOK x) : ∃ b, site_phased_t x = some b ∧ (b = true ↔ PhasedOK x) := by
  unfold site_phased_t
  refine iter_accQ (l := x.2.2.2.2.1) (fun a : Option Bool => ∃ b, a = some b ∧ (b = true ↔ PhasedOK x)) (fun _ p => PhaseOK x p) (fun s p => bitop .or .u32 s p.1) U32ok (fun s => letK (ring_Count s) (fun y => (some (y == (llen x.2.1))))) (some false) ⟨by decide, by decide⟩ hx.p (fun s i p hI h0 hi hp => ?_) (fun s i hI hi => by simp [hi, cnd]) (fun h => ⟨_, rfl, ?_⟩) (fun h => ⟨false, rfl, fun hh => (by cases hh), fun hh => absurd hh.1 h⟩)
  · obtain ⟨pu, pm⟩ := hx.ps p (idx_some_iff hp).2.2
    simp only [hi, decide_true, cnd_true, hp, elimO_some]
    by_cases h1 : p.1 = 0
    · exact .inr ⟨fun hh => hh.ne h1, by simp only [beq_iff_eq.2 h1, cnd_true]⟩
    simp only [beq_false_of_ne h1, cnd_false]
    have hp0 : decide (0 ≤ llen x.2.1) = true := by simp; exact llen_nonneg _
    simp only [hp0, cnd_true]
    by_cases h2 : (((!((shrop Go.IntKind.u32 p.1 (llen x.2.1)) == 0)) || (!(site_ticks (p.2.1 :: (p.2.2.1 :: (p.2.2.2.1 :: [])))))) || (decide (p.2.2.1 < p.2.1))) = true
    · refine .inr ⟨fun hh => ?_, by simp only [h2, cnd_true]⟩
      have t := (ticks3 p.2.1 p.2.2.1 p.2.2.2.1).2 ⟨hh.min, hh.max, hh.gap⟩
      have := hh.le
      simp [t, hh.hi] at h2
      omega
    · have h2' := Bool.eq_false_iff.2 h2
      simp only [h2', cnd_false]
      simp only [Bool.or_eq_false_iff, Bool.not_eq_false', beq_iff_eq, decide_eq_false_iff_not] at h2'
      obtain ⟨⟨k1, k2⟩, k3⟩ := h2'
      have k2 := (ticks3 _ _ _).1 k2
      refine iter_bitsQ (fun a : Step (Int × Int) (Option Bool) => (PhaseOK x p ∧ a = .next (bitop .or .u32 s p.1, wr .i64 (i + 1)) ∧ U32ok (bitop .or .u32 s p.1)) ∨ (¬ PhaseOK x p ∧ a = .done (some false)))
        (fun k => ∀ g s, idx x.2.1 k = some g → idx x.2.2.1 k = some s → g.2.1 ≤ p.2.1 ∧ bitop .and .u32 s p.1 = 0) (.done (some false)) (.next (bitop .or .u32 s p.1, wr .i64 (i + 1))) pu (fun y yu yz ys l0 l1 lb => ?_) (by simp [cnd]) (fun h => .inl ⟨⟨h1, k1, k2.1, k2.2.1, k2.2.2, by omega, h⟩, rfl, or_ok hI pu⟩) (fun h => .inr ⟨fun hh => h hh.bits, rfl⟩)
      obtain ⟨b0, b1⟩ := bit_group hs pu k1 lb
      obtain ⟨g, hg, _⟩ := idx_get (l := x.2.1) b0 b1
      obtain ⟨sa, hsa, _⟩ := idx_get (l := x.2.2.1) b0 (by rw [hs.a]; exact b1)
      simp only [beq_false_of_ne yz, Bool.not_false, cnd_true, letK, ring_Least_eq yz, ring_Without_eq l0 l1, hg, hsa, elimO_some]
      by_cases e1 : p.2.1 < g.2.1
      · exact .inr ⟨fun hh => by have := (hh g sa rfl rfl).1; omega, by simp only [e1, decide_true, cnd_true]⟩
      · by_cases e2 : bitop .and .u32 sa p.1 = 0
        · exact .inl ⟨fun g' s' a1 a2 => by cases a1; cases a2; exact ⟨by omega, e2⟩, by simp only [e1, decide_false, cnd_false, beq_iff_eq.2 e2, Bool.not_true]⟩
        · exact .inr ⟨fun hh => e2 (hh g sa rfl rfl).2, by simp only [e1, decide_false, cnd_false, beq_false_of_ne e2, Bool.not_false, cnd_true]⟩
  · show (ring_Count (allOf x) == llen x.2.1) = true ↔ _
    rw [beq_iff_eq]
    exact ⟨fun hh => ⟨h, hh⟩, fun hh => hh.2⟩

/-! ## detectors -/
structure EyeOK (x : PSSite) (e : PSEye) : Prop where
  phase : 0 ≤ e.1 ∧ e.1 ≤ llen x.2.2.2.2.1 - 1
  on : 1 ≤ e.2.1 ∧ e.2.1 ≤ 1048576
  off : 1 ≤ e.2.2.1 ∧ e.2.2.1 ≤ 1048576
  turns : 1 ≤ e.2.2.2 ∧ e.2.2.2 ≤ 64

def EyedOK (x : PSSite) : Prop := ∀ i e, idx x.2.2.2.2.2.1 i = some e → EyeOK x e

theorem eyed_s {x : PSSite} (hx : SFits x) (hs : ShapeOK x) : ∃ b, site_eyed_t x = some b ∧ (b = true ↔ EyedOK x) := by
  unfold site_eyed_t
  refine iter_allQ (l := x.2.2.2.2.2.1) (fun a : Option Bool => ∃ b, a = some b ∧ (b = true ↔ EyedOK x)) (fun _ e => EyeOK x e) (some false) (some true) hx.e (fun i e h0 hi he => ?_) (fun i hi => by simp [hi, cnd]) (fun h => ⟨true, rfl, fun _ => h, fun _ => rfl⟩) (fun h => ⟨false, rfl, fun hh => (by cases hh), fun hh => absurd hh h⟩)
  have hw : wr .i64 (llen x.2.2.2.2.1 - 1) = llen x.2.2.2.2.1 - 1 := by have := hs.p1; have := hs.p2; exact wr_i64 _ (by omega) (by omega)
  simp only [hi, decide_true, cnd_true, he, elimO_some, letK, hw]
  by_cases h1 : (((!(site_in (e.1, 0, llen x.2.2.2.2.1 - 1))) || (!(site_ticks (e.2.1 :: (e.2.2.1 :: []))))) || (!(site_in (e.2.2.2, (1, 64))))) = true
  · refine .inr ⟨fun hh => ?_, by simp only [h1, cnd_true]⟩
    have t1 := (in_iff _ _ _).2 hh.phase
    have t2 := (ticks2 e.2.1 e.2.2.1).2 ⟨hh.on, hh.off⟩
    have t3 := (in_iff _ _ _).2 hh.turns
    simp [t1, t2, t3] at h1
  · have h1' := Bool.eq_false_iff.2 h1
    refine .inl ⟨?_, by simp only [h1', cnd_false]⟩
    simp only [Bool.or_eq_false_iff, Bool.not_eq_false'] at h1'
    have t2 := (ticks2 _ _).1 h1'.1.2
    exact ⟨(in_iff _ _ _).1 h1'.1.1, t2.1, t2.2, (in_iff _ _ _).1 h1'.2⟩

/-! ## what lies between two phases -/
/-- of the first phase group a, of the other one b, which are apart: v lies between them -/
def Pair (x : PSSite) (pf pt : PSPhase) (a v : Int) : Prop :=
  bitI pf.1 a = true ∧ ∃ s r b, idx x.2.2.1 a = some s ∧ idx x.2.2.2.1 a = some r ∧ bitI s b = true ∧ bitI pt.1 b = true ∧ idx r b = some v

def ClearIs (x : PSSite) (pf pt : PSPhase) (n m : Int) : Prop :=
  0 ≤ m ∧ (∀ a v, 0 ≤ a → a < n → Pair x pf pt a v → v ≤ m) ∧ (m = 0 ∨ ∃ a, 0 ≤ a ∧ a < n ∧ Pair x pf pt a m)

theorem clear_unique {x : PSSite} {pf pt : PSPhase} {n m m' : Int} (h : ClearIs x pf pt n m) (h' : ClearIs x pf pt n m') : m = m' := by
  obtain ⟨h1, h2, h3⟩ := h
  obtain ⟨g1, g2, g3⟩ := h'
  have a1 : m ≤ m' := by
    rcases h3 with h3 | ⟨a, h3, h4, h5⟩
    · omega
    · exact g2 a m h3 h4 h5
  have a2 : m' ≤ m := by
    rcases g3 with g3 | ⟨a, g3, g4, g5⟩
    · omega
    · exact h2 a m' g3 g4 g5
  omega

theorem clear_s {x : PSSite} (hx : SFits x) (hs : ShapeOK x) {f t : Int} {pf pt : PSPhase} (hf : idx x.2.2.2.2.1 f = some pf) (ht : idx x.2.2.2.2.1 t = some pt) :
    ∃ m, site_clear_t (x, (f, t)) = some m ∧ ClearIs x pf pt (llen x.2.1) m := by
  obtain ⟨uf, _⟩ := hx.ps pf (idx_some_iff hf).2.2
  obtain ⟨ut, _⟩ := hx.ps pt (idx_some_iff ht).2.2
  unfold site_clear_t
  refine iter_ind (fun s => 0 ≤ s.2 ∧ s.2 ≤ llen x.2.1 ∧ ClearIs x pf pt s.2 s.1) (fun s => (llen x.2.1 - s.2).toNat) (fun a : Option Int => ∃ m, a = some m ∧ ClearIs x pf pt (llen x.2.1) m) ?_ lots (0, 0) ⟨by simp, llen_nonneg _, by simp, fun a v h0 h1 => by simp only at h1; omega, .inl rfl⟩ (by have := hs.n2; rw [lots_eq]; simp only; omega)
  rintro ⟨m, a⟩ ⟨h0, h1, h2, h3, h4⟩
  simp only at h0 h1 h2 h3 h4
  by_cases ha : a < llen x.2.1
  · have hw : wr .i64 (a + 1) = a + 1 := by have := hs.n2; exact wr_i64 _ (by omega) (by omega)
    simp only [ha, decide_true, cnd_true, hf, elimO_some, letK, ring_Has_eq uf]
    have old : ∀ {m'}, m ≤ m' → (∀ v, Pair x pf pt a v → v ≤ m') → (m' = m ∨ Pair x pf pt a m') → ClearIs x pf pt (a + 1) m' := fun {m'} le up ex => by
      refine ⟨by omega, fun a' v b0 b1 hp => ?_, ?_⟩
      · by_cases e : a' = a
        · subst e; exact up v hp
        · have := h3 a' v b0 (by omega) hp; omega
      · rcases ex with rfl | ex
        · rcases h4 with h4 | ⟨a', c1, c2, c3⟩
          · exact .inl h4
          · exact .inr ⟨a', c1, by omega, c3⟩
        · exact .inr ⟨a, h0, by omega, ex⟩
    cases hb : bitI pf.1 a with
    | false =>
      simp only [Bool.not_false, cnd_true, hw]
      refine ⟨⟨by simp only; omega, by simp only; omega, old (Int.le_refl _) (fun v hp => ?_) (.inl rfl)⟩, (by show (llen x.2.1 - (a + 1)).toNat < (llen x.2.1 - a).toNat; omega)⟩
      have := hp.1; rw [hb] at this; cases this
    | true =>
      obtain ⟨sa, hsa, hsam⟩ := idx_get (l := x.2.2.1) h0 (by rw [hs.a]; exact ha)
      obtain ⟨r, hr, _⟩ := idx_get (l := x.2.2.2.1) h0 (by rw [hs.b]; exact ha)
      have us := hx.as sa hsam
      have hrl := hs.rows a r hr
      simp only [Bool.not_true, cnd_false, hsa, ht, elimO_some]
      have inr : ∀ k, bitI (bitop .and .u32 sa pt.1) k = true → bitI sa k = true ∧ bitI pt.1 k = true ∧ 0 ≤ k ∧ k < llen r := fun k hk => by
        rw [bit_and us ut, Bool.and_eq_true] at hk
        obtain ⟨b0, b1⟩ := bit_group hs us (hs.aps a sa hsa) hk.1
        exact ⟨hk.1, hk.2, b0, by omega⟩
      refine iter_bitsMaxQ (fun z : Step (Int × Int) (Option Int) => Round (fun s => 0 ≤ s.2 ∧ s.2 ≤ llen x.2.1 ∧ ClearIs x pf pt s.2 s.1) (fun s => (llen x.2.1 - s.2).toNat) (fun a : Option Int => ∃ m, a = some m ∧ ClearIs x pf pt (llen x.2.1) m) (llen x.2.1 - a).toNat z)
        (fun k => el r k) (fun m => .next (m, wr .i64 (a + 1))) (and_ok us ut) (fun m' y yu yz l0 l1 lb => ?_) (fun m' => by simp [cnd]) (fun m' g1 g2 g3 => ?_)
      · obtain ⟨_, _, b0, b1⟩ := inr _ lb
        simp only [beq_false_of_ne yz, Bool.not_false, cnd_true, ring_Least_eq yz, ring_Without_eq l0 l1, hr, idx_el b0 b1, elimO_some]
      · rw [hw]
        refine ⟨⟨by simp only; omega, by simp only; omega, old g1 (fun v hp => ?_) ?_⟩, (by show (llen x.2.1 - (a + 1)).toNat < (llen x.2.1 - a).toNat; omega)⟩
        · obtain ⟨_, s', r', b, e1, e2, e3, e4, e5⟩ := hp
          rw [hsa] at e1; cases e1
          rw [hr] at e2; cases e2
          have hk : bitI (bitop .and .u32 sa pt.1) b = true := by rw [bit_and us ut, e3, e4]; rfl
          have := g2 b hk
          simpa [el, e5] using this
        · rcases g3 with g3 | ⟨k, hk, rfl⟩
          · exact .inl g3
          · obtain ⟨k1, k2, b0, b1⟩ := inr k hk
            exact .inr ⟨hb, sa, r, k, hsa, hr, k1, k2, idx_el b0 b1⟩
  · simp only [ha, decide_false, cnd_false]
    exact ⟨m, rfl, h2, fun a' v b0 b1 => h3 a' v b0 (by omega), h4.imp id fun ⟨a', c1, c2, c3⟩ => ⟨a', c1, by omega, c3⟩⟩

theorem clear_le {x : PSSite} (hx : SFits x) (hs : ShapeOK x) (hap : ApartOK x) {pf pt : PSPhase} {m : Int} (h : ClearIs x pf pt (llen x.2.1) m) : 0 ≤ m ∧ m ≤ 1048576 := by
  refine ⟨h.1, ?_⟩
  rcases h.2.2 with h3 | ⟨a, a0, a1, _, s, r, b, e1, e2, e3, _, e5⟩
  · omega
  · obtain ⟨g, hg, _⟩ := idx_get (l := x.2.1) a0 a1
    obtain ⟨b0, b1⟩ := bit_group hs (hx.as s (idx_some_iff e1).2.2) (hs.aps a s e1) e3
    obtain ⟨sb, hsb, _⟩ := idx_get (l := x.2.2.1) b0 (by rw [hs.a]; exact b1)
    exact ((hap a g hg).row r s b m sb e2 e1 e5 hsb).2.1 e3 |>.2.2

/-! ## what a phase needs -/
def needsV (x : PSSite) (i : Int) : Int := (site_needs_t (x, i)).getD 0

/-- the phase behind this one -/
def nextP (x : PSSite) (i : Int) : Int := (i + 1).tmod (llen x.2.2.2.2.1)

theorem nextP_in {x : PSSite} (hs : ShapeOK x) {i : Int} (h0 : 0 ≤ i) : 0 ≤ nextP x i ∧ nextP x i < llen x.2.2.2.2.1 := by
  have := hs.p1
  unfold nextP
  exact ⟨Int.tmod_nonneg _ (by omega), Int.tmod_lt_of_pos _ (by omega)⟩

theorem needs_s {x : PSSite} (hx : SFits x) (hs : ShapeOK x) (hap : ApartOK x) (hph : PhasedOK x) {i : Int} {p : PSPhase} (hp : idx x.2.2.2.2.1 i = some p) :
    site_needs_t (x, i) = some (needsV x i) ∧ ∃ pn m, idx x.2.2.2.2.1 (nextP x i) = some pn ∧ ClearIs x p pn (llen x.2.1) m ∧ needsV x i = p.2.1 + m ∧ 1 ≤ needsV x i ∧ needsV x i ≤ 2097152 := by
  obtain ⟨i0, i1, _⟩ := idx_some_iff hp
  obtain ⟨n0, n1⟩ := nextP_in hs i0
  obtain ⟨pn, hpn, _⟩ := idx_get (l := x.2.2.2.2.1) n0 n1
  obtain ⟨m, hm, hc⟩ := clear_s hx hs hp hpn
  have hl := clear_le hx hs hap hc
  have hmin := (hph.1 i p hp).min
  have hl1 := hs.p1
  have hl2 := hs.p2
  have key : site_needs_t (x, i) = some (p.2.1 + m) := by
    unfold site_needs_t
    have e : irem (wr .i64 (i + 1)) (llen x.2.2.2.2.1) = nextP x i := by
      rw [wr_i64 _ (by omega) (by omega)]; rfl
    have hz : (!(llen x.2.2.2.2.1 == 0)) = true := by simp; omega
    simp only [hp, elimO_some, hz, cnd_true, e, hm]
    rw [wr_i64 _ (by omega) (by omega)]
  have hv : needsV x i = p.2.1 + m := by unfold needsV; rw [key]; rfl
  exact ⟨by rw [hv]; exact key, pn, m, hpn, hc, hv, by omega, by omega⟩

/-! ## times -/
/-- the first n phases' needs together -/
def roundTo (x : PSSite) : Nat → Int
  | 0 => 0
  | n + 1 => roundTo x n + needsV x (n : Int)
def roundV (x : PSSite) : Int := roundTo x x.2.2.2.2.1.length

structure TimedOK (x : PSSite) : Prop where
  watch : 1 ≤ x.2.2.2.2.2.2.1 ∧ x.2.2.2.2.2.2.1 ≤ 1048576
  feed : 1 ≤ x.2.2.2.2.2.2.2.1 ∧ x.2.2.2.2.2.2.2.1 ≤ 1048576
  heal : 1 ≤ x.2.2.2.2.2.2.2.2.1 ∧ x.2.2.2.2.2.2.2.2.1 ≤ 1048576
  low : 1 ≤ x.2.2.2.2.2.2.2.2.2.1 ∧ x.2.2.2.2.2.2.2.2.2.1 ≤ 1048576
  high : 1 ≤ x.2.2.2.2.2.2.2.2.2.2.1 ∧ x.2.2.2.2.2.2.2.2.2.2.1 ≤ 1048576
  round : roundV x ≤ x.2.2.2.2.2.2.2.2.2.1
  le : x.2.2.2.2.2.2.2.2.2.1 ≤ x.2.2.2.2.2.2.2.2.2.2.1

theorem roundTo_le {x : PSSite} (hx : SFits x) (hs : ShapeOK x) (hap : ApartOK x) (hph : PhasedOK x) : ∀ n, n ≤ x.2.2.2.2.1.length → 0 ≤ roundTo x n ∧ roundTo x n ≤ 2097152 * (n : Int)
  | 0, _ => by simp [roundTo]
  | n + 1, h => by
    have ih := roundTo_le hx hs hap hph n (by omega)
    obtain ⟨p, hp, _⟩ := idx_get (l := x.2.2.2.2.1) (i := (n : Int)) (by omega) (by unfold llen; omega)
    have := (needs_s hx hs hap hph hp).2
    obtain ⟨_, _, _, _, _, h1, h2⟩ := this
    simp only [roundTo]
    omega

theorem timed_s {x : PSSite} (hx : SFits x) (hs : ShapeOK x) (hap : ApartOK x) (hph : PhasedOK x) : ∃ b, site_timed_t x = some b ∧ (b = true ↔ TimedOK x) := by
  unfold site_timed_t
  have hp2 := hs.p2
  refine iter_ind (fun s => 0 ≤ s.2 ∧ s.2 ≤ llen x.2.2.2.2.1 ∧ s.1 = roundTo x s.2.toNat) (fun s => (llen x.2.2.2.2.1 - s.2).toNat) (fun a : Option Bool => ∃ b, a = some b ∧ (b = true ↔ TimedOK x)) ?_ lots (0, 0) ⟨by simp, llen_nonneg _, rfl⟩ (by rw [lots_eq]; simp only; omega)
  rintro ⟨m, i⟩ ⟨h0, h1, h2⟩
  simp only at h0 h1 h2
  by_cases hi : i < llen x.2.2.2.2.1
  · obtain ⟨p, hp, _⟩ := idx_get h0 hi
    obtain ⟨hn, _, _, _, _, _, n1, n2⟩ := needs_s hx hs hap hph hp
    have hr := roundTo_le hx hs hap hph i.toNat (by unfold llen at hi; omega)
    simp only [hi, decide_true, cnd_true, hn, elimO_some]
    rw [wr_i64 (m + _) (by omega) (by omega), wr_i64 (i + 1) (by omega) (by omega)]
    refine ⟨⟨by simp only; omega, by simp only; omega, ?_⟩, (by show (llen x.2.2.2.2.1 - (i + 1)).toNat < (llen x.2.2.2.2.1 - i).toNat; omega)⟩
    simp only
    rw [show (i + 1).toNat = i.toNat + 1 by omega, roundTo, ← h2, show ((i.toNat : Nat) : Int) = i by omega]
  · simp only [hi, decide_false, cnd_false, letK]
    refine ⟨_, rfl, ?_⟩
    have hm : m = roundV x := by
      rw [h2]; unfold roundV; congr 1; unfold llen at h1 hi; omega
    have ht : site_ticks (x.2.2.2.2.2.2.1 :: (x.2.2.2.2.2.2.2.1 :: (x.2.2.2.2.2.2.2.2.1 :: (x.2.2.2.2.2.2.2.2.2.1 :: (x.2.2.2.2.2.2.2.2.2.2.1 :: []))))) = true ↔ (1 ≤ x.2.2.2.2.2.2.1 ∧ x.2.2.2.2.2.2.1 ≤ 1048576) ∧ (1 ≤ x.2.2.2.2.2.2.2.1 ∧ x.2.2.2.2.2.2.2.1 ≤ 1048576) ∧ (1 ≤ x.2.2.2.2.2.2.2.2.1 ∧ x.2.2.2.2.2.2.2.2.1 ≤ 1048576) ∧ (1 ≤ x.2.2.2.2.2.2.2.2.2.1 ∧ x.2.2.2.2.2.2.2.2.2.1 ≤ 1048576) ∧ (1 ≤ x.2.2.2.2.2.2.2.2.2.2.1 ∧ x.2.2.2.2.2.2.2.2.2.2.1 ≤ 1048576) := by
      unfold site_ticks; simp
    rw [Bool.and_eq_true, Bool.and_eq_true, ht, decide_eq_true_eq, decide_eq_true_eq, hm]
    exact ⟨fun h => ⟨h.1.1.1, h.1.1.2.1, h.1.1.2.2.1, h.1.1.2.2.2.1, h.1.1.2.2.2.2, h.1.2, h.2⟩, fun h => ⟨⟨⟨h.watch, h.feed, h.heal, h.low, h.high⟩, h.round⟩, h.le⟩⟩

/-! ## plans -/
/-- what is left of a cycle behind the first n splits -/
def leftTo (p : PSPlan) : Nat → Int
  | 0 => p.1
  | n + 1 => leftTo p n - el p.2.2 (n : Int)

structure PlanOK (x : PSSite) (p : PSPlan) : Prop where
  cycle : x.2.2.2.2.2.2.2.2.2.1 ≤ p.1 ∧ p.1 ≤ x.2.2.2.2.2.2.2.2.2.2.1
  offset : 0 ≤ p.2.1 ∧ p.2.1 ≤ p.1 - 1
  len : llen p.2.2 = llen x.2.2.2.2.1
  split : ∀ n : Nat, (n : Int) < llen p.2.2 → needsV x (n : Int) ≤ el p.2.2 (n : Int) ∧ el p.2.2 (n : Int) ≤ leftTo p n
  all : leftTo p p.2.2.length = 0

def PFits (p : PSPlan) : Prop := (-9223372036854775808 ≤ p.1 ∧ p.1 ≤ 9223372036854775807) ∧ p.2.2.length ≤ maxLen ∧ ∀ m ∈ p.2.2, -9223372036854775808 ≤ m ∧ m ≤ 9223372036854775807

theorem fits_s {x : PSSite} (hx : SFits x) (hs : ShapeOK x) (hap : ApartOK x) (hph : PhasedOK x) (hti : TimedOK x) {p : PSPlan} (_ : PFits p) : ∃ b, site_fits_t (x, p) = some b ∧ (b = true ↔ PlanOK x p) := by
  unfold site_fits_t
  simp only [letK]
  rw [cnd_if]
  have hlow := hti.low
  have hhigh := hti.high
  split
  · rename_i h
    refine ⟨false, rfl, fun hh => (by cases hh), fun hh => ?_⟩
    exfalso
    have c1 := hh.cycle
    have t1 := (in_iff p.1 _ _).2 hh.cycle
    have hw : wr .i64 (p.1 - 1) = p.1 - 1 := wr_i64 _ (by omega) (by omega)
    have t2 := (in_iff p.2.1 0 (p.1 - 1)).2 hh.offset
    have t3 := hh.len
    simp [t1, hw, t2, t3] at h
  · rename_i h
    simp only [Bool.or_eq_true, Bool.not_eq_true', beq_eq_false_iff_ne, not_or, Bool.not_eq_false, ne_eq, Decidable.not_not] at h
    obtain ⟨⟨g1, g2⟩, g3⟩ := h
    have g1 := (in_iff _ _ _).1 g1
    have hw : wr .i64 (p.1 - 1) = p.1 - 1 := wr_i64 _ (by omega) (by omega)
    rw [hw] at g2
    have g2 := (in_iff _ _ _).1 g2
    have g3 : llen p.2.2 = llen x.2.2.2.2.1 := by simpa using g3
    have hp2 := hs.p2
    refine iter_ind (fun s => 0 ≤ s.2 ∧ s.2 ≤ llen p.2.2 ∧ s.1 = leftTo p s.2.toNat ∧ 0 ≤ s.1 ∧ s.1 ≤ 1048576 ∧ ∀ n : Nat, (n : Int) < s.2 → needsV x (n : Int) ≤ el p.2.2 (n : Int) ∧ el p.2.2 (n : Int) ≤ leftTo p n) (fun s => (llen p.2.2 - s.2).toNat) (fun a : Option Bool => ∃ b, a = some b ∧ (b = true ↔ PlanOK x p)) ?_ lots (p.1, 0) ⟨by simp, llen_nonneg _, rfl, by simp only; omega, by simp only; omega, fun n h => by simp only at h; omega⟩ (by rw [lots_eq]; simp only; omega)
    rintro ⟨m, i⟩ ⟨h0, h1, h2, h3, h4, h5⟩
    simp only at h0 h1 h2 h3 h4 h5
    by_cases hi : i < llen p.2.2
    · obtain ⟨ph, hpp, _⟩ := idx_get (l := x.2.2.2.2.1) h0 (by omega)
      obtain ⟨hn, _, _, _, _, _, n1, n2⟩ := needs_s hx hs hap hph hpp
      have hin : ((i.toNat : Nat) : Int) = i := by omega
      simp only [hi, decide_true, cnd_true, idx_el h0 hi, hn, elimO_some]
      by_cases hc : site_in (el p.2.2 i, (needsV x i, m)) = true
      · have hc' := (in_iff _ _ _).1 hc
        simp only [hc, Bool.not_true, cnd_false]
        rw [wr_i64 (m - _) (by omega) (by omega), wr_i64 (i + 1) (by omega) (by omega)]
        refine ⟨⟨by simp only; omega, by simp only; omega, ?_, by simp only; omega, by simp only; omega, fun n hn' => ?_⟩, (by show (llen p.2.2 - (i + 1)).toNat < (llen p.2.2 - i).toNat; omega)⟩
        · simp only
          rw [show (i + 1).toNat = i.toNat + 1 by omega, leftTo, ← h2, hin]
        · simp only at hn'
          by_cases e : (n : Int) = i
          · have e2 : n = i.toNat := by omega
            rw [e]
            refine ⟨hc'.1, ?_⟩
            rw [e2, ← h2]; exact hc'.2
          · exact h5 n (by omega)
      · have hc' := Bool.eq_false_iff.2 hc
        simp only [hc', Bool.not_false, cnd_true]
        refine ⟨false, rfl, fun hh => (by cases hh), fun hh => ?_⟩
        have := hh.split i.toNat (by omega)
        rw [hin, ← h2] at this
        exact absurd ((in_iff _ _ _).2 this) hc
    · simp only [hi, decide_false, cnd_false]
      refine ⟨_, rfl, ?_⟩
      have hl : i.toNat = p.2.2.length := by unfold llen at h1 hi; omega
      rw [beq_iff_eq, h2, hl]
      exact ⟨fun h => ⟨g1, g2, g3, fun n hn => h5 n (by omega), h⟩, fun h => h.all⟩

def PlannedOK (x : PSSite) : Prop := ∀ i p, idx x.2.2.2.2.2.2.2.2.2.2.2 i = some p → PlanOK x p

theorem planned_s {x : PSSite} (hx : SFits x) (hs : ShapeOK x) (hap : ApartOK x) (hph : PhasedOK x) (hti : TimedOK x) : ∃ b, site_planned_t x = some b ∧ (b = true ↔ PlannedOK x) := by
  unfold site_planned_t
  refine iter_allQ (l := x.2.2.2.2.2.2.2.2.2.2.2) (fun a : Option Bool => ∃ b, a = some b ∧ (b = true ↔ PlannedOK x)) (fun _ p => PlanOK x p) (some false) (some true) hx.q (fun i p h0 hi hp => ?_) (fun i hi => by simp [hi, cnd]) (fun h => ⟨true, rfl, fun _ => h, fun _ => rfl⟩) (fun h => ⟨false, rfl, fun hh => (by cases hh), fun hh => absurd hh h⟩)
  obtain ⟨b, h1, h2⟩ := fits_s hx hs hap hph hti (hx.qs p (idx_some_iff hp).2.2)
  simp only [hi, decide_true, cnd_true, hp, elimO_some, h1]
  cases b with
  | true => exact .inl ⟨h2.1 rfl, rfl⟩
  | false => exact .inr ⟨fun hh => (by have := h2.2 hh; cases this), rfl⟩

/-! ## a site that may be -/
structure SiteOK (x : PSSite) : Prop where
  id : 0 ≤ x.1 ∧ x.1 ≤ 65535
  shape : ShapeOK x
  apart : ApartOK x
  phased : PhasedOK x
  eyed : EyedOK x
  timed : TimedOK x
  planned : PlannedOK x

theorem check_s {x : PSSite} (hx : SFits x) : ∃ e, site_Check_t x = some e ∧ ((e = 0 ∧ SiteOK x) ∨ (e = 50 ∧ ¬ SiteOK x)) := by
  unfold site_Check_t
  have step : ∀ {k : Int} {P : Prop}, k ≤ 5 → wr .i64 (k + 1) = k + 1 ∨ k < 0 := fun {k P} h => by
    by_cases h0 : 0 ≤ k
    · exact .inl (wr_i64 _ (by omega) (by omega))
    · exact .inr (by omega)
  refine iter_ind (fun s => s.1 = false ∧ 0 ≤ s.2 ∧ s.2 ≤ 6 ∧ (1 ≤ s.2 → (0 ≤ x.1 ∧ x.1 ≤ 65535) ∧ ShapeOK x) ∧ (2 ≤ s.2 → ApartOK x) ∧ (3 ≤ s.2 → PhasedOK x) ∧ (4 ≤ s.2 → EyedOK x) ∧ (5 ≤ s.2 → TimedOK x) ∧ (6 ≤ s.2 → PlannedOK x)) (fun s => (6 - s.2).toNat) (fun a : Option Int => ∃ e, a = some e ∧ ((e = 0 ∧ SiteOK x) ∨ (e = 50 ∧ ¬ SiteOK x))) ?_ lots (false, 0) ⟨rfl, by simp, by simp, fun h => by simp at h, fun h => by simp at h, fun h => by simp at h, fun h => by simp at h, fun h => by simp at h, fun h => by simp at h⟩ (by rw [lots_eq]; simp)
  rintro ⟨b, k⟩ ⟨hb, k0, k6, a1, a2, a3, a4, a5, a6⟩
  simp only at hb k0 k6 a1 a2 a3 a4 a5 a6
  subst hb
  by_cases hk : k < 6
  · have hw : wr .i64 (k + 1) = k + 1 := wr_i64 _ (by omega) (by omega)
    simp only [hk, decide_true, cnd_true, hw]
    have cases6 : k = 0 ∨ k = 1 ∨ k = 2 ∨ k = 3 ∨ k = 4 ∨ k = 5 := by omega
    rcases cases6 with rfl | rfl | rfl | rfl | rfl | rfl
    · simp only [beq_self_eq_true, cnd_true, letK]
      by_cases hid : site_in (x.1, (0, 65535)) = true
      · obtain ⟨b, h1, h2⟩ := shape_s hx
        simp only [hid, Bool.not_true, cnd_false, h1, elimO_some]
        cases b with
        | true => exact ⟨⟨rfl, by decide, by decide, fun _ => ⟨(in_iff _ _ _).1 hid, h2.1 rfl⟩, fun h => by simp at h, fun h => by simp at h, fun h => by simp at h, fun h => by simp at h, fun h => by simp at h⟩, by decide⟩
        | false => exact ⟨50, rfl, .inr ⟨rfl, fun hh => by have := h2.2 hh.shape; cases this⟩⟩
      · have hid' := Bool.eq_false_iff.2 hid
        simp only [hid', Bool.not_false, cnd_true]
        exact ⟨50, rfl, .inr ⟨rfl, fun hh => hid ((in_iff _ _ _).2 hh.id)⟩⟩
    · obtain ⟨hid, hs⟩ := a1 (by decide)
      obtain ⟨b, h1, h2⟩ := apart_s hx hs
      simp only [show ((1 : Int) == 0) = false from rfl, beq_self_eq_true, cnd_true, cnd_false, h1, elimO_some]
      cases b with
      | true => exact ⟨⟨rfl, by decide, by decide, fun _ => ⟨hid, hs⟩, fun _ => h2.1 rfl, fun h => by simp at h, fun h => by simp at h, fun h => by simp at h, fun h => by simp at h⟩, by decide⟩
      | false => exact ⟨50, rfl, .inr ⟨rfl, fun hh => by have := h2.2 hh.apart; cases this⟩⟩
    · obtain ⟨hid, hs⟩ := a1 (by decide)
      obtain ⟨b, h1, h2⟩ := phased_s hx hs
      simp only [show ((2 : Int) == 0) = false from rfl, show ((2 : Int) == 1) = false from rfl, beq_self_eq_true, cnd_true, cnd_false, h1, elimO_some]
      cases b with
      | true => exact ⟨⟨rfl, by decide, by decide, fun _ => ⟨hid, hs⟩, fun _ => a2 (by decide), fun _ => h2.1 rfl, fun h => by simp at h, fun h => by simp at h, fun h => by simp at h⟩, by decide⟩
      | false => exact ⟨50, rfl, .inr ⟨rfl, fun hh => by have := h2.2 hh.phased; cases this⟩⟩
    · obtain ⟨hid, hs⟩ := a1 (by decide)
      obtain ⟨b, h1, h2⟩ := eyed_s hx hs
      simp only [show ((3 : Int) == 0) = false from rfl, show ((3 : Int) == 1) = false from rfl, show ((3 : Int) == 2) = false from rfl, beq_self_eq_true, cnd_true, cnd_false, h1, elimO_some]
      cases b with
      | true => exact ⟨⟨rfl, by decide, by decide, fun _ => ⟨hid, hs⟩, fun _ => a2 (by decide), fun _ => a3 (by decide), fun _ => h2.1 rfl, fun h => by simp at h, fun h => by simp at h⟩, by decide⟩
      | false => exact ⟨50, rfl, .inr ⟨rfl, fun hh => by have := h2.2 hh.eyed; cases this⟩⟩
    · obtain ⟨hid, hs⟩ := a1 (by decide)
      obtain ⟨b, h1, h2⟩ := timed_s hx hs (a2 (by decide)) (a3 (by decide))
      simp only [show ((4 : Int) == 0) = false from rfl, show ((4 : Int) == 1) = false from rfl, show ((4 : Int) == 2) = false from rfl, show ((4 : Int) == 3) = false from rfl, beq_self_eq_true, cnd_true, cnd_false, h1, elimO_some]
      cases b with
      | true => exact ⟨⟨rfl, by decide, by decide, fun _ => ⟨hid, hs⟩, fun _ => a2 (by decide), fun _ => a3 (by decide), fun _ => a4 (by decide), fun _ => h2.1 rfl, fun h => by simp at h⟩, by decide⟩
      | false => exact ⟨50, rfl, .inr ⟨rfl, fun hh => by have := h2.2 hh.timed; cases this⟩⟩
    · obtain ⟨hid, hs⟩ := a1 (by decide)
      obtain ⟨b, h1, h2⟩ := planned_s hx hs (a2 (by decide)) (a3 (by decide)) (a5 (by decide))
      simp only [show ((5 : Int) == 0) = false from rfl, show ((5 : Int) == 1) = false from rfl, show ((5 : Int) == 2) = false from rfl, show ((5 : Int) == 3) = false from rfl, show ((5 : Int) == 4) = false from rfl, beq_self_eq_true, cnd_true, cnd_false, h1, elimO_some]
      cases b with
      | true => exact ⟨⟨rfl, by decide, by decide, fun _ => ⟨hid, hs⟩, fun _ => a2 (by decide), fun _ => a3 (by decide), fun _ => a4 (by decide), fun _ => a5 (by decide), fun _ => h2.1 rfl⟩, by decide⟩
      | false => exact ⟨50, rfl, .inr ⟨rfl, fun hh => by have := h2.2 hh.planned; cases this⟩⟩
  · simp only [hk, decide_false, cnd_false]
    have e : k = 6 := by omega
    subst e
    obtain ⟨hid, hs⟩ := a1 (by decide)
    exact ⟨0, rfl, .inl ⟨rfl, hid, hs, a2 (by decide), a3 (by decide), a4 (by decide), a5 (by decide), a6 (by decide)⟩⟩

end Go.Proofs.YtfdnmjabjmedgaaDoor
