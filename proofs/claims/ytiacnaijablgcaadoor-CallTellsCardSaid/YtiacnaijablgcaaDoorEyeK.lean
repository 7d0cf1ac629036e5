/- Part of a proof: plain readings of Go functions, their contracts, or plain facts of them. -/
import Derived.Test.YtiacnaijablgcaaDoorEyeT
namespace Go.Proofs.YtiacnaijablgcaaDoor
open Go.Den

theorem joinPt_app {σ A : Type} (k : σ → A) (body : (σ → A) → A) : joinPt k body = body k := id rfl

/-! # Who wants to go -/
def Called (s : PSSite) (l : List PSLooked) (p : Int) : Prop :=
  (∃ ph, idx s.2.2.2.2.1 p = some ph ∧ ph.2.2.2.2 = true) ∨ ∃ i e x, idx s.2.2.2.2.2.1 i = some e ∧ idx l i = some x ∧ e.1 = p ∧ eye_Wants x = true

theorem orBit {m i : Int} (hm : U32ok m) (h0 : 0 ≤ i) (h1 : i ≤ 31) : U32ok (bitop .or .u32 m (shlop .u32 1 i)) ∧ ∀ j, bitI (bitop .or .u32 m (shlop .u32 1 i)) j = (bitI m j || decide (i = j)) := by
  rw [shl1 h0 h1]
  exact ⟨or_ok hm (pow_ok h0 h1), fun j => by rw [bit_or hm (pow_ok h0 h1), bit_pow h0]⟩

theorem without_s {m g : Int} (hm : U32ok m) : U32ok (ring_Without (m, g)) ∧ ∀ p, bitI (ring_Without (m, g)) p = (bitI m p && !decide (g = p)) := by
  by_cases h : 0 ≤ g ∧ g ≤ 31
  · rw [ring_Without_eq h.1 h.2]
    exact clr_spec hm h.1 h.2
  · have hz : ring_bit g = 0 := by
      unfold ring_bit
      rw [cnd_if, if_pos (by simp; omega)]
    have e : ring_Without (m, g) = bitop .andNot .u32 m 0 := by unfold ring_Without; rw [letK_app, hz]
    have z : U32ok 0 := ⟨by decide, by decide⟩
    rw [e]
    refine ⟨andNot_ok hm z, fun p => ?_⟩
    rw [bit_andNot hm z, bit_zero]
    by_cases c : g = p
    · subst c
      have : bitI m g = false := by
        by_cases h2 : g < 0
        · exact bit_neg h2
        · exact bit_high hm (by omega)
      rw [this]; rfl
    · simp [c]

theorem real_e {s : PSSite} {l : List PSLooked} {e : Int} (hok : e = 0 → EyesOK s) (h : site_Check_t s = some e) (hl : llen l ≤ 1000) :
    ∃ c, call_Real_t (s, l) = some (if askE e s l ≠ 0 then (0, askE e s l) else (c, 0)) ∧ (askE e s l = 0 → U32ok c ∧ ∀ p, bitI c p = true ↔ Called s l p) := by
  obtain ⟨w, w1, _⟩ := well13_e hok h hl
  unfold call_Real_t
  rw [elimO_eq _ _ w1]
  by_cases h0 : askE e s l = 0
  · obtain ⟨rfl, k1, k2⟩ := askE_ok h0
    have hok := hok rfl
    have hp2 := hok.p2
    rw [h0, if_neg (by simp), cnd_neg _ _ (by rfl)]
    simp only [ne_eq, not_true, if_false, true_implies]
    refine iter_up (fun z : Int × Int => z.2) (llen s.2.2.2.2.1) (fun z => U32ok z.1 ∧ ∀ p, bitI z.1 p = true ↔ p < z.2 ∧ ∃ ph, idx s.2.2.2.2.1 p = some ph ∧ ph.2.2.2.2 = true) (fun a : Option (Int × Int) => ∃ c, a = some (c, 0) ∧ U32ok c ∧ ∀ p, bitI c p = true ↔ Called s l p) (by omega) (by simp) (llen_nonneg _) ⟨⟨by simp, by simp⟩, fun p => ?_⟩ (fun z hI i0 i1 => ?_) (fun z hI hz => ?_)
    · simp only [bit_zero]
      exact ⟨fun h => (by cases h), fun ⟨j1, ph, q, _⟩ => by have := (idx_some_iff q).1; omega⟩
    · obtain ⟨m, i⟩ := z
      obtain ⟨hm, hb⟩ := hI
      simp only at i0 i1 hm hb
      obtain ⟨ph, hph, _⟩ := idx_get (l := s.2.2.2.2.1) i0 i1
      simp only
      rw [cnd_pos _ _ (decide_eq_true i1), elimO_eq _ _ hph, wr_i64 (i + 1) (by omega) (by omega)]
      cases c : ph.2.2.2.2 with
      | true =>
        obtain ⟨a1, a2⟩ := orBit (i := i) hm i0 (by omega)
        rw [cnd_pos _ _ rfl, cnd_pos _ _ (decide_eq_true i0)]
        refine ⟨rfl, a1, fun p => ?_⟩
        show bitI (bitop .or .u32 m (shlop .u32 1 i)) p = true ↔ _
        rw [a2, Bool.or_eq_true, hb, decide_eq_true_eq]
        constructor
        · rintro (⟨q1, q2⟩ | q)
          · exact ⟨by simp only; omega, q2⟩
          · subst q; exact ⟨by simp only; omega, ph, hph, c⟩
        · rintro ⟨q1, q2⟩
          by_cases e : i = p
          · exact .inr e
          · exact .inl ⟨by simp only at q1; omega, q2⟩
      | false =>
        rw [cnd_neg _ _ rfl]
        refine ⟨rfl, hm, fun p => ?_⟩
        show bitI m p = true ↔ _
        rw [hb]
        constructor
        · rintro ⟨q1, q2⟩; exact ⟨by simp only; omega, q2⟩
        · rintro ⟨q1, ph', q2, q3⟩
          by_cases e : p = i
          · subst e; rw [hph] at q2; cases q2; rw [c] at q3; cases q3
          · exact ⟨by simp only at q1; omega, ph', q2, q3⟩
    · obtain ⟨m, i⟩ := z
      obtain ⟨hm, hb⟩ := hI
      simp only at hz hm hb
      simp only
      rw [cnd_neg _ _ (show decide (i < llen s.2.2.2.2.1) = false by simp; omega)]
      have hb' : ∀ p, bitI m p = true ↔ ∃ ph, idx s.2.2.2.2.1 p = some ph ∧ ph.2.2.2.2 = true := fun p => (hb p).trans ⟨fun q => q.2, fun q => ⟨by obtain ⟨ph, q1, _⟩ := q; have := (idx_some_iff q1).2.1; omega, q⟩⟩
      show ∃ c, iter _ _ _ _ = some (c, 0) ∧ U32ok c ∧ ∀ p, bitI c p = true ↔ Called s l p
      refine iter_up (fun z : Int × Int => z.2) (llen l) (fun z => U32ok z.1 ∧ ∀ p, bitI z.1 p = true ↔ (∃ ph, idx s.2.2.2.2.1 p = some ph ∧ ph.2.2.2.2 = true) ∨ ∃ j e x, j < z.2 ∧ idx s.2.2.2.2.2.1 j = some e ∧ idx l j = some x ∧ e.1 = p ∧ eye_Wants x = true) (fun a : Option (Int × Int) => ∃ c, a = some (c, 0) ∧ U32ok c ∧ ∀ p, bitI c p = true ↔ Called s l p) (by omega) (by simp) (llen_nonneg _) ⟨hm, fun p => ?_⟩ (fun z hI i0 i1 => ?_) (fun z hI hz => ?_)
      · show bitI m p = true ↔ _
        rw [hb']
        exact ⟨.inl, fun q => q.elim id fun ⟨j, e, x, j1, q1, _⟩ => by have := (idx_some_iff q1).1; simp only at j1; omega⟩
      · obtain ⟨m, i⟩ := z
        obtain ⟨hm, hb⟩ := hI
        simp only at i0 i1 hm hb
        obtain ⟨x, hx, _⟩ := idx_get i0 i1
        obtain ⟨ey, he, _⟩ := idx_get (l := s.2.2.2.2.2.1) i0 (by omega)
        have hph := hok.eyes i ey he
        simp only
        rw [cnd_pos _ _ (decide_eq_true i1), elimO_eq _ _ hx, letK_app, wr_i64 (i + 1) (by omega) (by omega)]
        cases c : eye_Wants x with
        | true =>
          obtain ⟨a1, a2⟩ := orBit (i := ey.1) hm hph.1 (by omega)
          rw [cnd_pos _ _ rfl, elimO_eq _ _ he, cnd_pos _ _ (decide_eq_true hph.1)]
          refine ⟨rfl, a1, fun p => ?_⟩
          show bitI (bitop .or .u32 m (shlop .u32 1 ey.1)) p = true ↔ _
          rw [a2, Bool.or_eq_true, hb, decide_eq_true_eq]
          constructor
          · rintro ((q | ⟨j, e, x', j1, q⟩) | q)
            · exact .inl q
            · exact .inr ⟨j, e, x', by simp only; omega, q⟩
            · exact .inr ⟨i, ey, x, by simp only; omega, he, hx, q, c⟩
          · rintro (q | ⟨j, e, x', j1, q1, q2, q3, q4⟩)
            · exact .inl (.inl q)
            · by_cases ej : j = i
              · subst ej; rw [he] at q1; cases q1; exact .inr q3
              · exact .inl (.inr ⟨j, e, x', by simp only at j1; omega, q1, q2, q3, q4⟩)
        | false =>
          rw [cnd_neg _ _ rfl]
          refine ⟨rfl, hm, fun p => ?_⟩
          show bitI m p = true ↔ _
          rw [hb]
          refine or_congr_right ⟨fun ⟨j, e, x', j1, q⟩ => ⟨j, e, x', by simp only; omega, q⟩, fun ⟨j, e, x', j1, q1, q2, q3, q4⟩ => ?_⟩
          by_cases ej : j = i
          · subst ej; rw [hx] at q2; cases q2; rw [c] at q4; cases q4
          · exact ⟨j, e, x', by simp only at j1; omega, q1, q2, q3, q4⟩
      · obtain ⟨m, i⟩ := z
        obtain ⟨hm, hb⟩ := hI
        simp only at hz hm hb
        simp only
        rw [cnd_neg _ _ (show decide (i < llen l) = false by simp; omega)]
        refine ⟨m, rfl, hm, fun p => (hb p).trans (or_congr_right ⟨fun ⟨j, e, x, _, q⟩ => ⟨j, e, x, q⟩, fun ⟨j, e, x, q⟩ => ⟨j, e, x, ?_, q⟩⟩)⟩
        have := (idx_some_iff q.2.1).2.1; omega
  · rw [if_pos h0, cnd_pos _ _ (by simp [h0])]
    exact ⟨0, by rw [if_pos h0], fun h => absurd h h0⟩

def askC (s : PSSite) (c ph : Int) : Int := if shrop .u32 c (llen s.2.2.2.2.1) ≠ 0 then 8 else if ph < -1 ∨ llen s.2.2.2.2.1 ≤ ph then 2 else 0
theorem askC_e (s : PSSite) (c ph : Int) : call_asked_t (s, (c, ph)) = some (askC s c ph) := by
  unfold call_asked_t askC
  rw [cnd_pos _ _ (decide_eq_true (llen_nonneg _))]
  by_cases h : shrop .u32 c (llen s.2.2.2.2.1) = 0
  · rw [cnd_neg _ _ (by simpa using h), if_neg (by simpa using h), cnd_if]
    by_cases h2 : ph < -1 ∨ llen s.2.2.2.2.1 ≤ ph
    · rw [if_pos h2, if_pos (by simpa using h2)]
    · rw [if_neg h2, if_neg (by simpa using h2)]
  · rw [cnd_pos _ _ (by simpa using h), if_pos h]
theorem askC_ok {s : PSSite} {c ph : Int} (h : askC s c ph = 0) : shrop .u32 c (llen s.2.2.2.2.1) = 0 ∧ -1 ≤ ph ∧ ph < llen s.2.2.2.2.1 := by
  unfold askC at h
  split at h
  · cases h
  · rename_i h1
    split at h
    · cases h
    · rename_i h2; exact ⟨Decidable.not_not.1 h1, by omega, by omega⟩

def NextIs (s : PSSite) (l : List PSLooked) (c g n : Int) : Prop := U32ok n ∧ ∀ p, bitI n p = true ↔ p ≠ g ∧ (bitI c p = true ∨ Called s l p)

theorem callNext_e {s : PSSite} {l : List PSLooked} {e c g : Int} (hok : e = 0 → EyesOK s) (h : site_Check_t s = some e) (hl : llen l ≤ 1000) (hc : U32ok c) :
    ∃ n, call_Next_t (s, (c, (l, g))) = some (if askE e s l ≠ 0 then (0, askE e s l) else if askC s c g ≠ 0 then (0, askC s c g) else (n, 0)) ∧ (askE e s l = 0 → NextIs s l c g n) := by
  obtain ⟨r, r1, r2⟩ := real_e hok h hl
  unfold call_Next_t
  rw [elimO_eq _ _ r1]
  by_cases h0 : askE e s l = 0
  · obtain ⟨hr, hb⟩ := r2 h0
    rw [if_neg (by simp [h0]), cnd_neg _ _ (by rfl), elimO_eq _ _ (askC_e s c g)]
    obtain ⟨a1, a2⟩ := without_s (g := g) (or_ok hc hr)
    refine ⟨ring_Without (bitop .or .u32 c r, g), ?_, fun _ => ⟨a1, fun p => ?_⟩⟩
    · rw [if_neg (by simp [h0])]
      by_cases h1 : askC s c g = 0
      · rw [cnd_neg _ _ (by simp [h1]), letK_app, if_neg (by simp [h1])]
      · rw [cnd_pos _ _ (by simp [h1]), if_pos h1]
    · rw [a2, bit_or hc hr, Bool.and_eq_true, Bool.or_eq_true, hb, Bool.not_eq_true', decide_eq_false_iff_not]
      exact ⟨fun q => ⟨fun e => q.2 e.symm, q.1⟩, fun q => ⟨q.2, fun e => q.1 e.symm⟩⟩
  · rw [if_pos h0, cnd_pos _ _ (by simp [h0])]
    exact ⟨0, by rw [if_pos h0], fun h => absurd h h0⟩

/-! ## the first call behind a phase -/
/-- the phase i places behind one, going round -/
def rnd (n ph i : Int) : Int := if ph + i < n then ph + i else ph + i - n
theorem rnd_eq {n ph i : Int} (hn : 1 ≤ n) (hn2 : n ≤ 8) (p0 : -1 ≤ ph) (p1 : ph < n) (i0 : 1 ≤ i) (i1 : i ≤ n) : irem (wr .i64 ((wr .i64 (ph + i)) + n)) n = rnd n ph i := by
  rw [wr_i64 (ph + i) (by omega) (by omega), wr_i64 (ph + i + n) (by omega) (by omega)]
  unfold irem rnd
  rw [Int.tmod_eq_emod_of_nonneg (by omega), Int.add_emod_right]
  split
  · exact Int.emod_eq_of_lt (by omega) (by omega)
  · rw [← Int.sub_emod_right, Int.emod_eq_of_lt (by omega) (by omega)]
theorem rnd_in {n ph i : Int} (_ : 1 ≤ n) (p0 : -1 ≤ ph) (p1 : ph < n) (i0 : 1 ≤ i) (i1 : i ≤ n) : 0 ≤ rnd n ph i ∧ rnd n ph i < n := by
  unfold rnd; split <;> omega

def FirstIs (n c ph p : Int) : Prop := (∃ i, 1 ≤ i ∧ i ≤ n ∧ p = rnd n ph i ∧ bitI c p = true ∧ ∀ j, 1 ≤ j → j < i → bitI c (rnd n ph j) = false) ∨ (p = -1 ∧ ∀ j, 1 ≤ j → j ≤ n → bitI c (rnd n ph j) = false)

theorem firstIs_unique {n c ph p q : Int} (h1 : FirstIs n c ph p) (h2 : FirstIs n c ph q) : p = q := by
  rcases h1 with ⟨i, i0, i1, rfl, hb, hj⟩ | ⟨rfl, hj⟩
  · rcases h2 with ⟨k, k0, k1, rfl, hb2, hj2⟩ | ⟨rfl, hj2⟩
    · by_cases c1 : i < k
      · rw [hj2 i i0 c1] at hb; cases hb
      · by_cases c2 : k < i
        · rw [hj k k0 c2] at hb2; cases hb2
        · rw [show i = k by omega]
    · rw [hj2 i i0 i1] at hb; cases hb
  · rcases h2 with ⟨k, k0, k1, rfl, hb2, hj2⟩ | ⟨rfl, hj2⟩
    · rw [hj k k0 k1] at hb2; cases hb2
    · rfl

theorem callFirst_e {s : PSSite} {e c ph : Int} (hok : e = 0 → EyesOK s) (h : site_Check_t s = some e) (hc : U32ok c) :
    ∃ p, call_First_t (s, (c, ph)) = some (if e ≠ 0 then (0, e) else if askC s c ph ≠ 0 then (0, askC s c ph) else (p, 0)) ∧ (e = 0 → askC s c ph = 0 → FirstIs (llen s.2.2.2.2.1) c ph p) := by
  unfold call_First_t
  rw [elimO_eq _ _ h]
  by_cases h0 : e = 0
  · subst h0
    have hok := hok rfl
    have hp1 := hok.p1
    have hp2 := hok.p2
    rw [cnd_neg _ _ (by rfl), elimO_eq _ _ (askC_e s c ph)]
    simp only [ne_eq, not_true, if_false, true_implies]
    by_cases h1 : askC s c ph = 0
    · obtain ⟨_, a1, a2⟩ := askC_ok h1
      rw [cnd_neg _ _ (by simp [h1])]
      simp only [h1, not_true, if_false, true_implies]
      generalize llen s.2.2.2.2.1 = n at *
      refine iter_ind (fun i : Int => 1 ≤ i ∧ i ≤ n + 1 ∧ ∀ j, 1 ≤ j → j < i → bitI c (rnd n ph j) = false) (fun i => (n + 1 - i).toNat) (fun a : Option (Int × Int) => ∃ p, a = some (p, 0) ∧ FirstIs n c ph p) ?_ lots 1 ⟨by omega, by omega, fun j h1 h2 => by omega⟩ (by rw [lots_eq]; omega)
      rintro i ⟨i0, i1, hj⟩
      by_cases hi : i ≤ n
      · rw [cnd_pos _ _ (decide_eq_true hi), cnd_pos _ _ (show (!(n == 0)) = true by simp; omega), rnd_eq hp1 hp2 a1 a2 i0 hi, letK_app, ring_Has_eq hc]
        cases hb : bitI c (rnd n ph i) with
        | true =>
          rw [cnd_pos _ _ rfl]
          exact ⟨_, rfl, .inl ⟨i, i0, hi, rfl, hb, hj⟩⟩
        | false =>
          rw [cnd_neg _ _ rfl, wr_i64 (i + 1) (by omega) (by omega)]
          refine ⟨⟨by omega, by omega, fun j j0 j1 => ?_⟩, by show (n + 1 - (i + 1)).toNat < (n + 1 - i).toNat; omega⟩
          by_cases ej : j = i
          · rw [ej]; exact hb
          · exact hj j j0 (by omega)
      · rw [cnd_neg _ _ (decide_eq_false hi)]
        exact ⟨-1, rfl, .inr ⟨rfl, fun j j0 j1 => hj j j0 (by omega)⟩⟩
    · rw [cnd_pos _ _ (by simp [h1])]
      exact ⟨0, by rw [if_pos h1], fun h => absurd h h1⟩
  · rw [cnd_pos _ _ (by simp [h0])]
    exact ⟨0, by rw [if_pos h0], fun h => absurd h h0⟩

theorem alive14 : law14_alive_t () = some true := by kernel_rfl
theorem callNames_law (x : Unit) (_ : FitsAll [] x) : law14_CallNames_t x = some true := by cases x; kernel_rfl

theorem callNearest_law (x : PSSite × Int × Int) (hf : FitsAll [SSite, U32, I64] x) : law14_CallNearest_t x = some true := by
  obtain ⟨s, c, ph⟩ := x
  have hs : SFits s := sfits hf.1
  have hc : U32ok c := hf.2.1
  unfold law14_CallNearest_t
  obtain ⟨g, hg⟩ := great_s s hs
  rw [elimO_eq _ _ alive14, cnd_neg _ _ (by rfl), elimO_eq _ _ hg, cnd_if]
  split
  · rfl
  obtain ⟨e, h2, h3⟩ := check_s hs
  rw [elimO_eq _ _ h2, cnd_if]
  split
  · rfl
  rename_i h4
  have he : e = 0 := by simpa using h4
  subst he
  have hok := eyesOK (check_ok h3 rfl)
  have hp1 := hok.p1
  have hp2 := hok.p2
  obtain ⟨p, q1, q2⟩ := callFirst_e (ph := ph) (fun _ => hok) h2 hc
  rw [elimO_eq _ _ q1]
  simp only [ne_eq, not_true, if_false]
  by_cases h5 : askC s c ph = 0
  · obtain ⟨a0, a1, a2⟩ := askC_ok h5
    simp only [h5, not_true, if_false]
    have hF := q2 rfl h5
    have hhi := (shr_zero hc (llen_nonneg s.2.2.2.2.1) (by omega)).1 a0
    generalize llen s.2.2.2.2.1 = n at *
    rcases hF with ⟨i, i0, i1, rfl, hb, hj⟩ | ⟨rfl, hj⟩
    · obtain ⟨r0, r1⟩ := rnd_in hp1 a1 a2 i0 i1
      rw [cnd_neg _ _ (by simp; omega)]
      refine iter_ind (fun k : Int => 1 ≤ k ∧ k ≤ i) (fun k => (i - k).toNat) (fun a : Option Bool => a = some true) ?_ lots 1 ⟨by omega, by omega⟩ (by rw [lots_eq]; omega)
      rintro k ⟨k0, k1⟩
      have rk := rnd_in hp1 a1 a2 k0 (show k ≤ n by omega)
      rw [cnd_pos _ _ (show decide (k ≤ n) = true by simp; omega), cnd_pos _ _ (show (!(n == 0)) = true by simp; omega), rnd_eq hp1 hp2 a1 a2 k0 (by omega)]
      by_cases e : rnd n ph k = rnd n ph i
      · rw [cnd_pos _ _ (by simpa using e), cnd_pos _ _ rfl, cnd_pos _ _ (by rfl), shrBit hc r0 (by omega), hb]
        rfl
      · have hlt : k < i := by
          by_cases h : k = i
          · rw [h] at e; exact absurd rfl e
          · omega
        rw [cnd_neg _ _ (by simpa using e), cnd_pos _ _ (by rfl), shrBit hc rk.1 (by omega), hj k k0 hlt, cnd_neg _ _ rfl, wr_i64 (k + 1) (by omega) (by omega)]
        exact ⟨⟨by omega, by omega⟩, by show (i - (k + 1)).toNat < (i - k).toNat; omega⟩
    · rw [cnd_pos _ _ (by rfl)]
      have hz : c = 0 := bit_ext hc ⟨by decide, by decide⟩ fun q q0 q1 => by
        rw [bit_zero]
        by_cases hq : q < n
        · by_cases hqp : ph < q
          · have := hj (q - ph) (by omega) (by omega)
            unfold rnd at this
            rw [if_pos (by omega), show ph + (q - ph) = q by omega] at this
            exact this
          · have := hj (q - ph + n) (by omega) (by omega)
            unfold rnd at this
            rw [if_neg (by omega), show ph + (q - ph + n) - n = q by omega] at this
            exact this
        · exact hhi q (by omega)
      rw [hz]; rfl
  · simp only [h5, not_false_iff, if_true]
    rw [cnd_pos _ _ (by simp [h5])]
    simp [h5]

theorem callKept_law (x : PSSite × Int × List PSLooked × Int) (hf : FitsAll [SSite, U32, SLookeds, I64] x) : law14_CallKept_t x = some true := by
  obtain ⟨s, c, l, green⟩ := x
  have hs : SFits s := sfits hf.1
  have hc : U32ok c := hf.2.1
  unfold law14_CallKept_t
  obtain ⟨g, hg⟩ := great_s s hs
  rw [elimO_eq _ _ alive14, cnd_neg _ _ (by rfl), elimO_eq _ _ hg, cnd_if]
  split
  · rfl
  rename_i h1
  have hl : llen l ≤ 60 := by simp at h1; omega
  obtain ⟨e, h2, h3⟩ := check_s hs
  rw [elimO_eq _ _ h2, cnd_if]
  split
  · rfl
  rename_i h4
  have he : e = 0 := by simpa using h4
  subst he
  have hok := eyesOK (check_ok h3 rfl)
  have hp1 := hok.p1
  have hp2 := hok.p2
  obtain ⟨n, q1, q2⟩ := callNext_e (g := green) (l := l) (fun _ => hok) h2 (by omega) hc
  rw [elimO_eq _ _ q1]
  by_cases h5 : askE 0 s l = 0
  · obtain ⟨_, k1, _⟩ := askE_ok h5
    simp only [h5, ne_eq, not_true, if_false]
    obtain ⟨hn, hb⟩ := q2 h5
    by_cases h6 : askC s c green = 0
    · simp only [h6, not_true, if_false]
      rw [cnd_neg _ _ (by rfl), cnd_neg _ _ (by simpa using k1)]
      refine iter_up (fun p : Int => p) 32 (fun _ => True) (fun a => a = some true) (by omega) (by simp) (by simp) trivial (fun p _ p0 p1 => ?_) (fun p _ hp => ?_)
      · have p0 : 0 ≤ p := p0
        have p1 : p < 32 := p1
        rw [cnd_pos _ _ (decide_eq_true p1), joinPt_app]
        have loop : ∀ b0 : Bool, (b0 = true ↔ ∃ ph, idx s.2.2.2.2.1 p = some ph ∧ ph.2.2.2.2 = true) → UpRound (fun p : Int => p) (fun _ => True) (fun a : Option Bool => a = some true) p ((fun x6 : Bool =>
(iter (.done none) (fun x7 =>
(cnd (decide (x7.2 < (llen l)))
(joinPt (fun x8 =>
(.next (x8, (wr .i64 (x7.2 + 1))))) (fun k =>
(cnd x7.1
(k true)
(elimO (idx s.2.2.2.2.2.1 x7.2) (.done (.done none)) (fun x8 =>
(cnd (x8.1 == p)
(elimO (idx l x7.2) (.done (.done none)) (fun x9 =>
(cnd x9.1
(k true)
(elimO (idx l x7.2) (.done (.done none)) (fun x10 =>
(k x10.2.2.2.1))))))
(k false)))))))
(.done (cnd (!((2 : Int) == 0))
(cnd (!(p == green))
(cnd x7.1
(cnd (!(((irem (shrop Go.IntKind.u32 n (wr .u64 p)) 2) == 1) == true))
(.done (some false))
(.next (wr .i64 (p + 1))))
(cnd (!((2 : Int) == 0))
(cnd (!(((irem (shrop Go.IntKind.u32 n (wr .u64 p)) 2) == 1) == ((irem (shrop Go.IntKind.u32 c (wr .u64 p)) 2) == 1)))
(.done (some false))
(.next (wr .i64 (p + 1))))
(.done none)))
(cnd (!(((irem (shrop Go.IntKind.u32 n (wr .u64 p)) 2) == 1) == false))
(.done (some false))
(.next (wr .i64 (p + 1)))))
(.done none))))) lots (x6, 0))) b0) := fun b0 hb0 => by
          refine iter_any (l := l) (fun i x => ∃ e, idx s.2.2.2.2.2.1 i = some e ∧ e.1 = p ∧ eye_Wants x = true) _ b0 (by omega) (fun b i x i0 i1 hx => ?_) (fun b i hi hbb => ?_)
          · obtain ⟨ey, hey, _⟩ := idx_get (l := s.2.2.2.2.2.1) i0 (by omega)
            simp only
            rw [cnd_pos _ _ (decide_eq_true i1), joinPt_app]
            cases b with
            | true => exact ⟨true, rfl, fun _ => .inl rfl, fun _ => rfl⟩
            | false =>
              rw [cnd_neg _ _ rfl, elimO_eq _ _ hey]
              by_cases ce : ey.1 = p
              · rw [cnd_pos _ _ (by simpa using ce), elimO_eq _ _ hx, elimO_eq _ _ hx]
                have hW : eye_Wants x = (x.1 || x.2.2.2.1) := rfl
                cases c1 : x.1 with
                | true => exact ⟨true, rfl, fun _ => .inr ⟨ey, hey, ce, by rw [hW, c1]; rfl⟩, fun _ => rfl⟩
                | false =>
                  refine ⟨x.2.2.2.1, rfl, fun h => .inr ⟨ey, hey, ce, by rw [hW, c1, h]; rfl⟩, fun h => h.elim (fun h => (by cases h)) fun ⟨_, _, _, q⟩ => by rw [hW, c1] at q; exact q⟩
              · rw [cnd_neg _ _ (by simpa using ce)]
                exact ⟨false, rfl, fun h => (by cases h), fun h => h.elim (fun h => (by cases h)) fun ⟨e2, r1, r2, _⟩ => by rw [hey] at r1; cases r1; exact absurd r2 ce⟩
          · simp only
            have hcall : b = true ↔ Called s l p := hbb.trans (or_congr hb0 ⟨fun ⟨i, x, r1, e, r2, r3, r4⟩ => ⟨i, e, x, r2, r1, r3, r4⟩, fun ⟨i, e, x, r2, r1, r3, r4⟩ => ⟨i, x, r1, e, r2, r3, r4⟩⟩)
            have hbp := hb p
            rw [cnd_neg _ _ (decide_eq_false hi), cnd_pos _ _ (by rfl), shrBit hn p0 (by omega), shrBit hc p0 (by omega), wr_i64 (p + 1) (by omega) (by omega)]
            by_cases cg : p = green
            · rw [cnd_neg _ _ (by simpa using cg)]
              have : bitI n p = false := by
                cases c2 : bitI n p with
                | false => rfl
                | true => exact absurd cg (hbp.1 c2).1
              rw [this]
              exact ⟨rfl, trivial⟩
            · rw [cnd_pos _ _ (by simpa using cg)]
              cases cb : b with
              | true =>
                have : bitI n p = true := hbp.2 ⟨cg, .inr (hcall.1 cb)⟩
                rw [cnd_pos _ _ rfl, this]
                exact ⟨rfl, trivial⟩
              | false =>
                have : bitI n p = bitI c p := by
                  apply Bool.eq_iff_iff.2
                  rw [hbp]
                  refine ⟨fun q => q.2.elim id fun q => ?_, fun q => ⟨cg, .inl q⟩⟩
                  have := hcall.2 q
                  rw [cb] at this; cases this
                rw [cnd_neg _ _ rfl, cnd_pos _ _ (by rfl), this, cnd_neg _ _ (by simp)]
                exact ⟨rfl, trivial⟩
        by_cases hpn : p < llen s.2.2.2.2.1
        · obtain ⟨ph, hph, _⟩ := idx_get p0 hpn
          rw [cnd_pos _ _ (decide_eq_true hpn), elimO_eq _ _ hph]
          exact loop _ ⟨fun h => ⟨ph, hph, h⟩, fun ⟨ph', r1, r2⟩ => by rw [hph] at r1; cases r1; exact r2⟩
        · rw [cnd_neg _ _ (decide_eq_false hpn)]
          exact loop false ⟨fun h => (by cases h), fun ⟨ph', r1, _⟩ => absurd (idx_some_iff r1).2.1 hpn⟩
      · have hp : p = 32 := hp
        rw [cnd_neg _ _ (show decide (p < 32) = false by simp; omega)]
        rfl
    · simp only [h6, not_false_iff, if_true]
      rw [cnd_pos _ _ (by simp [h6])]
      rfl
  · simp only [h5, ne_eq, not_false_iff, if_true]
    rw [cnd_pos _ _ (by simp [h5])]
    rfl

/-- going round from phase ph on: told are those called among the first i - 1 places -/
theorem callRound_law (x : PSSite × Int × Int) (hf : FitsAll [SSite, U32, I64] x) : law14_CallRound_t x = some true := by
  obtain ⟨s, c, ph⟩ := x
  have hs : SFits s := sfits hf.1
  have hc : U32ok c := hf.2.1
  unfold law14_CallRound_t
  obtain ⟨g, hg⟩ := great_s s hs
  rw [elimO_eq _ _ alive14, cnd_neg _ _ (by rfl), elimO_eq _ _ hg, cnd_if]
  split
  · rfl
  obtain ⟨e, h2, h3⟩ := check_s hs
  rw [elimO_eq _ _ h2, cnd_if]
  split
  · rfl
  rename_i h4
  have he : e = 0 := by simpa using h4
  subst he
  have hok := eyesOK (check_ok h3 rfl)
  have hp1 := hok.p1
  have hp2 := hok.p2
  have first := fun ph => callFirst_e (ph := ph) (fun _ => hok) h2 hc
  obtain ⟨p, q1, q2⟩ := first ph
  have q1' := q1
  rw [elimO_eq _ _ q1]
  simp only [ne_eq, not_true, if_false] at q1 ⊢
  by_cases h5 : askC s c ph = 0
  · obtain ⟨a0, a1, a2⟩ := askC_ok h5
    simp only [h5, not_true, if_false] at q1 ⊢
    have hF := q2 rfl h5
    have hhi := (shr_zero hc (llen_nonneg s.2.2.2.2.1) (by omega)).1 a0
    have hask : ∀ ph', -1 ≤ ph' → ph' < llen s.2.2.2.2.1 → askC s c ph' = 0 := fun ph' r1 r2 => by
      unfold askC; rw [if_neg (by simpa using a0), if_neg (by omega)]
    generalize llen s.2.2.2.2.1 = n at *
    -- where each phase stands
    have place : ∀ q, 0 ≤ q → q < n → ∃ j, 1 ≤ j ∧ j ≤ n ∧ rnd n ph j = q := fun q q0 q1 => by
      by_cases hqp : ph < q
      · exact ⟨q - ph, by omega, by omega, by unfold rnd; rw [if_pos (by omega)]; omega⟩
      · exact ⟨q - ph + n, by omega, by omega, by unfold rnd; rw [if_neg (by omega)]; omega⟩
    have inj : ∀ i j, 1 ≤ i → i ≤ n → 1 ≤ j → j ≤ n → rnd n ph i = rnd n ph j → i = j := fun i j i0 i1 j0 j1 h => by
      unfold rnd at h; split at h <;> split at h <;> omega
    have only : ∀ t, U32ok t → (∀ q, bitI t q = true → bitI c q = true) → (∀ j, 1 ≤ j → j ≤ n → bitI t (rnd n ph j) = bitI c (rnd n ph j)) → t = c := fun t ht hsub hall => bit_ext ht hc fun q q0 _ => by
      by_cases hq : q < n
      · obtain ⟨j, j0, j1, rfl⟩ := place q q0 hq
        exact hall j j0 j1
      · have h1 := hhi q (by omega)
        rw [h1]
        cases ht2 : bitI t q with
        | false => rfl
        | true => have := hsub q ht2; rw [h1] at this; cases this
    rw [cnd_neg _ _ (by rfl)]
    by_cases hz : c = 0
    · rw [cnd_pos _ _ (by simpa using hz)]
      rcases hF with ⟨i, _, _, rfl, hb, _⟩ | ⟨rfl, _⟩
      · rw [hz, bit_zero] at hb; cases hb
      · rfl
    · rw [cnd_neg _ _ (by simpa using hz)]
      rcases hF with ⟨i, i0, i1, rfl, hb, hj⟩ | ⟨rfl, hj⟩
      rotate_left
      · exact absurd (only 0 ⟨by decide, by decide⟩ (fun q hq => by rw [bit_zero] at hq; cases hq) (fun j j0 j1 => by rw [bit_zero, hj j j0 j1])).symm hz
      have hfst : FirstIs n c ph (rnd n ph i) := .inl ⟨i, i0, i1, rfl, hb, hj⟩
      have fin : ∀ told, told = c → EndRound (fun a : Option Bool => a = some true) (.done (elimO (call_First_t (s, (c, ph))) none (fun x6 => (some ((true && (x6.2 == 0)) && (rnd n ph i == x6.1))))) : Step (Int × Int) (Option Bool)) := fun told _ => by
        show elimO _ _ _ = some true
        rw [elimO_eq _ _ q1]; simp
      refine iter_ind (fun z : Int × Int => U32ok z.2 ∧ ((z.2 = c ∧ z.1 = rnd n ph i) ∨ ∃ k, 1 ≤ k ∧ k ≤ n ∧ z.1 = rnd n ph k ∧ bitI c z.1 = true ∧ ∀ q, bitI z.2 q = true ↔ bitI c q = true ∧ ∃ j, 1 ≤ j ∧ j < k ∧ q = rnd n ph j)) (fun z => (4294967296 - z.2).toNat) (fun a : Option Bool => a = some true) ?_ lots (rnd n ph i, 0) ⟨⟨by simp, by simp⟩, .inr ⟨i, i0, i1, rfl, hb, fun q => ?_⟩⟩ (by rw [lots_eq]; simp)
      · rintro ⟨p, told⟩ ⟨ht, hI⟩
        simp only at ht hI
        simp only
        by_cases heq : told = c
        · rw [cnd_neg _ _ (by simpa using heq)]
          have hp : p = rnd n ph i := by
            rcases hI with ⟨_, h⟩ | ⟨k, k0, k1, h1, hbk, hbits⟩
            · exact h
            · exfalso
              have := (hbits p).1 (by rw [heq]; exact hbk)
              obtain ⟨_, j, j0, j1, hj⟩ := this
              rw [h1] at hj
              have := inj k j k0 k1 j0 (by omega) hj
              omega
          rw [hp]
          exact fin told heq
        · rw [cnd_pos _ _ (by simpa using heq)]
          rcases hI with ⟨h, _⟩ | ⟨k, k0, k1, h1, hbk, hbits⟩
          · exact absurd h heq
          obtain ⟨r0, r1⟩ := rnd_in hp1 a1 a2 k0 k1
          rw [← h1] at r0 r1
          have hnt : bitI told p = false := by
            cases ct : bitI told p with
            | false => rfl
            | true =>
              obtain ⟨_, j, j0, j1, hj⟩ := (hbits p).1 ct
              rw [h1] at hj
              have := inj k j k0 k1 j0 (by omega) hj
              omega
          have hwp : wr .u64 p = p := by show IntKind.u64.wrap p = p; rw [wrap_u64]; omega
          obtain ⟨p', f1, f2⟩ := first p
          have f2 := f2 rfl (hask p (by omega) r1)
          simp only [ne_eq, not_true, if_false, hask p (by omega) r1] at f1
          rw [cnd_neg _ _ (by simp; omega), cnd_pos _ _ (by rfl), shrBit0 hc r0 (by omega), hbk, cnd_neg _ _ (show (!true) = false from rfl), cnd_pos _ _ (by rfl), shrBit ht r0 (by omega), hnt, cnd_neg _ _ rfl, elimO_eq _ _ f1, cnd_neg _ _ (by rfl), hwp]
          obtain ⟨o1, o2⟩ := orBit (i := p) ht r0 (by omega)
          have hle : told.toNat ≤ (bitop .or .u32 told (shlop .u32 1 p)).toNat := by
            rw [shl1 r0 (by omega), or_u32 ht (pow_ok r0 (by omega)), Int.toNat_natCast]; exact Nat.left_le_or
          generalize bitop .or .u32 told (shlop .u32 1 p) = told' at o1 o2 hle
          have hbits' : ∀ q, bitI told' q = true ↔ bitI c q = true ∧ ∃ j, 1 ≤ j ∧ j < k + 1 ∧ q = rnd n ph j := fun q => by
            rw [o2, Bool.or_eq_true, hbits, decide_eq_true_eq]
            constructor
            · rintro (⟨h, j, j0, j1, hj⟩ | h)
              · exact ⟨h, j, j0, by omega, hj⟩
              · subst h; exact ⟨hbk, k, k0, by omega, h1⟩
            · rintro ⟨h, j, j0, j1, hj⟩
              by_cases ej : j = k
              · right; rw [hj, ej, h1]
              · exact .inl ⟨h, j, j0, by omega, hj⟩
          refine ⟨⟨o1, ?_⟩, ?_⟩
          · -- the next one
            rcases f2 with ⟨m, m0, m1, rfl, hbm, hmj⟩ | ⟨rfl, hmj⟩
            rotate_left
            · exfalso
              have := hmj n hp1 (Int.le_refl n)
              unfold rnd at this
              rw [if_neg (by omega), show p + n - n = p by omega, hbk] at this
              cases this
            have hrr : ∀ y, 1 ≤ y → y ≤ n → rnd n p y = if k + y ≤ n then rnd n ph (k + y) else rnd n ph (k + y - n) := fun y y0 y1 => by
              rw [h1]; unfold rnd
              repeat' split
              all_goals omega
            by_cases hkm : k + m ≤ n
            · right
              have e1 : rnd n p m = rnd n ph (k + m) := by rw [hrr m m0 m1, if_pos hkm]
              refine ⟨k + m, by omega, hkm, e1, hbm, fun q => ?_⟩
              show bitI told' q = true ↔ _
              rw [hbits']
              refine and_congr_right fun hq => ⟨fun ⟨j, j0, j1, hj⟩ => ⟨j, j0, by omega, hj⟩, fun ⟨j, j0, j1, hj⟩ => ⟨j, j0, ?_, hj⟩⟩
              apply Int.not_le.1
              intro hge
              have := hmj (j - k) (by omega) (by omega)
              rw [hrr (j - k) (by omega) (by omega), if_pos (by omega), show k + (j - k) = j by omega, ← hj, hq] at this
              cases this
            · left
              have none' : ∀ j, k + 1 ≤ j → j ≤ n → bitI c (rnd n ph j) = false := fun j j0 j1 => by
                have := hmj (j - k) (by omega) (by omega)
                rwa [hrr (j - k) (by omega) (by omega), if_pos (by omega), show k + (j - k) = j by omega] at this
              refine ⟨only told' o1 (fun q hq => ((hbits' q).1 hq).1) (fun j j0 j1 => ?_), ?_⟩
              · by_cases hjk : j < k + 1
                · cases cj : bitI c (rnd n ph j) with
                  | true => exact (hbits' _).2 ⟨cj, j, j0, hjk, rfl⟩
                  | false =>
                    cases ct : bitI told' (rnd n ph j) with
                    | false => rfl
                    | true => have := ((hbits' _).1 ct).1; rw [cj] at this; cases this
                · have hf := none' j (by omega) j1
                  rw [hf]
                  cases ct : bitI told' (rnd n ph j) with
                  | false => rfl
                  | true => have := ((hbits' _).1 ct).1; rw [hf] at this; cases this
              · refine firstIs_unique (.inl ⟨k + m - n, by omega, by omega, by rw [hrr m m0 m1, if_neg hkm], hbm, fun j j0 j1 => ?_⟩) hfst
                have := hmj (j + n - k) (by omega) (by omega)
                rwa [hrr (j + n - k) (by omega) (by omega), if_neg (by omega), show k + (j + n - k) - n = j by omega] at this
          · have hne : told ≠ told' := fun h => by
              have := o2 p
              rw [← h, hnt] at this; simp at this
            have := ht.1; have := ht.2; have := o1.1; have := o1.2
            show (4294967296 - told').toNat < (4294967296 - told).toNat
            omega
      · show bitI 0 q = true ↔ _
        rw [bit_zero]
        refine ⟨fun h => (by cases h), fun ⟨hq, j, j0, j1, hj2⟩ => ?_⟩
        rw [hj2, hj j j0 j1] at hq; cases hq
  · simp only [h5, not_false_iff, if_true]
    rw [cnd_pos _ _ (by simp [h5])]
    rfl

end Go.Proofs.YtiacnaijablgcaaDoor
