/- Part of a proof: plain readings of Go functions, their contracts, or plain facts of them. -/
import Derived.Test.YtiacnaijablgcaaDoorEyeE
namespace Go.Proofs.YtiacnaijablgcaaDoor
open Go.Den

/-! # All detectors of a site -/
def askE (e : Int) (s : PSSite) (l : List PSLooked) : Int :=
  if e ≠ 0 then e else if llen l ≠ llen s.2.2.2.2.2.1 then 4 else if ∀ x ∈ l, eye_may x = true then 0 else 8

theorem may_loop {l : List PSLooked} (hl : l.length ≤ maxLen) : iter none (fun x2 : Int =>
(cnd (decide (x2 < (llen l)))
(elimO (idx l x2) (.done none) (fun x3 =>
(letK (eye_may x3) (fun y =>
(cnd (!y)
(.done (some 8))
(.next (wr .i64 (x2 + 1))))))))
(.done (some (0 : Int))))) lots 0 = some (if ∀ x ∈ l, eye_may x = true then 0 else 8) := by
  have conv : (∀ x ∈ l, eye_may x = true) ↔ (∀ (i : Int) x, idx l i = some x → eye_may x = true) := ⟨fun h i a ha => h a (idx_some_iff ha).2.2, fun h a ha => by obtain ⟨i, hi⟩ := mem_idx ha; exact h i a hi⟩
  refine iter_allQ (l := l) (fun a : Option Int => a = some (if ∀ x ∈ l, eye_may x = true then 0 else 8)) (fun _ x => eye_may x = true) (some 8) (some 0) hl (fun i x h0 hi hx => ?_) (fun i hi => by simp [hi, cnd]) (fun h => by rw [if_pos (conv.2 h)]) (fun h => by rw [if_neg (fun hh => h (conv.1 hh))])
  rw [cnd_pos _ _ (decide_eq_true hi), elimO_eq _ _ hx, letK_app]
  cases c : eye_may x with
  | true => exact .inl ⟨rfl, rfl⟩
  | false => exact .inr ⟨by simp, rfl⟩

theorem asked13_e {s : PSSite} {l : List PSLooked} {e : Int} (h : site_Check_t s = some e) (hl : l.length ≤ maxLen) : eye_asked_t (s, l) = some (askE e s l) := by
  unfold eye_asked_t askE
  rw [elimO_eq _ _ h]
  by_cases h0 : e = 0
  · subst h0
    rw [cnd_neg _ _ (by rfl), if_neg (by simp)]
    by_cases h1 : llen l = llen s.2.2.2.2.2.1
    · rw [cnd_neg _ _ (by simpa using h1), if_neg (by simpa using h1)]
      exact may_loop hl
    · rw [cnd_pos _ _ (by simpa using h1), if_pos h1]
  · rw [cnd_pos _ _ (by simp [h0]), if_pos h0]

theorem refAsked13_e {s : PSSite} {l : List PSLooked} {e : Int} (h : ref05_Check_t s = some e) (hl : l.length ≤ maxLen) : ref13_Asked_t (s, l) = some (askE e s l) := by
  unfold ref13_Asked_t askE
  rw [elimO_eq _ _ h]
  by_cases h0 : e = 0
  · subst h0
    rw [cnd_neg _ _ (by rfl), if_neg (by simp)]
    by_cases h1 : llen l = llen s.2.2.2.2.2.1
    · rw [cnd_neg _ _ (by simpa using h1), if_neg (by simpa using h1)]
      simp only [refMay13_eq]
      exact may_loop hl
    · rw [cnd_pos _ _ (by simpa using h1), if_pos h1]
  · rw [cnd_pos _ _ (by simp [h0]), if_pos h0]

theorem askE_ok {e : Int} {s : PSSite} {l : List PSLooked} (h : askE e s l = 0) : e = 0 ∧ llen l = llen s.2.2.2.2.2.1 ∧ ∀ x ∈ l, MayOK x := by
  unfold askE at h
  split at h
  · rename_i h0; exact absurd h h0
  · rename_i h0
    split at h
    · cases h
    · rename_i h1
      split at h
      · rename_i h2; exact ⟨Decidable.not_not.1 h0, Decidable.not_not.1 h1, fun x hx => (may_iff x).1 (h2 x hx)⟩
      · cases h

/-- a site that may be, as far as detectors go -/
structure EyesOK (s : PSSite) : Prop where
  n : llen s.2.2.2.2.2.1 ≤ 24
  p1 : 1 ≤ llen s.2.2.2.2.1
  p2 : llen s.2.2.2.2.1 ≤ 8
  eyes : ∀ i e, idx s.2.2.2.2.2.1 i = some e → 0 ≤ e.1 ∧ e.1 ≤ llen s.2.2.2.2.1 - 1
  heal : 1 ≤ s.2.2.2.2.2.2.2.2.1 ∧ s.2.2.2.2.2.2.2.2.1 ≤ 1048576
theorem eyesOK {s : PSSite} (h : SiteOK s) : EyesOK s := ⟨h.shape.e, h.shape.p1, h.shape.p2, fun i e he => (h.eyed i e he).phase, h.timed.heal⟩

def allV (s : PSSite) (ups : Int) (l : List PSLooked) : List PSLooked := l.mapIdx fun i x => stepV s (el s.2.2.2.2.2.1 (i : Int)) x (bitI ups i)

theorem idx_allV {s : PSSite} {ups : Int} {l : List PSLooked} {i : Int} {x : PSLooked} (h : idx l i = some x) : idx (allV s ups l) i = some (stepV s (el s.2.2.2.2.2.1 i) x (bitI ups i)) := by
  have h0 := (idx_some_iff h).1
  unfold allV
  rw [idx_mapIdx h0, h, Option.map_some, show ((i.toNat : Nat) : Int) = i by omega]

def allR (e : Int) (s : PSSite) (ups : Int) (l : List PSLooked) : List PSLooked × Int := if askE e s l ≠ 0 then ([], askE e s l) else (allV s ups l, 0)

theorem all13_e {s : PSSite} {l : List PSLooked} {e ups : Int} (hok : e = 0 → EyesOK s) (h : site_Check_t s = some e) (hl : llen l ≤ 1000) (hu : U32ok ups) : eye_All_t (s, (l, ups)) = some (allR e s ups l) := by
  have hl' : l.length ≤ maxLen := by unfold llen at hl; unfold maxLen; omega
  unfold eye_All_t allR
  rw [elimO_eq _ _ (asked13_e h hl')]
  by_cases h0 : askE e s l = 0
  · obtain ⟨rfl, h1, h2⟩ := askE_ok h0
    have hok := hok rfl
    have hn := llen_nonneg l
    rw [h0, cnd_neg _ _ (by rfl), if_neg (by simp), cnd_pos _ _ (make_ok hn (by omega))]
    refine iter_up (fun z : Int × List PSLooked => z.1) (llen l) (fun z => llen z.2 = llen l ∧ ∀ j, 0 ≤ j → j < z.1 → idx z.2 j = idx (allV s ups l) j) (fun a => a = some (allV s ups l, (0 : Int))) (by omega) (by simp) hn ⟨llen_lrep hn _, fun j j0 j1 => absurd j1 (by simp only; omega)⟩ (fun z hI i0 i1 => ?_) (fun z hI hz => ?_)
    · obtain ⟨i, out⟩ := z
      obtain ⟨hlen, hj⟩ := hI
      simp only at i0 i1 hlen hj
      obtain ⟨x, hx, hxm⟩ := idx_get i0 i1
      obtain ⟨y, hy, _⟩ := idx_get (l := out) i0 (by omega)
      simp only
      rw [cnd_pos _ _ (by simpa using i1), elimO_eq _ _ hx, letK_app, ring_Has_eq hu, elimO_eq _ _ (step_v (idx_el i0 (by omega)) (h2 x hxm)), elimO_eq _ _ hy, elimO_eq _ _ hy, wr_i64 (i + 1) (by omega) (by omega)]
      refine ⟨rfl, by simp only; rw [llen_lset]; exact hlen, fun j j0 j1 => ?_⟩
      simp only at j1 ⊢
      rw [idx_lset i0 (by omega)]
      split
      · rename_i e; rw [e, idx_allV hx]
      · exact hj j j0 (by omega)
    · obtain ⟨i, out⟩ := z
      obtain ⟨hlen, hj⟩ := hI
      simp only at hz hlen hj
      simp only
      rw [cnd_neg _ _ (show decide (i < llen l) = false by simp; omega)]
      show some (out, (0 : Int)) = _
      have : out = allV s ups l := idx_ext (by unfold allV; rw [llen_mapIdx]; exact hlen) fun j j0 j1 => hj j j0 (by omega)
      rw [this]
  · rw [cnd_pos _ _ (by simp [h0]), if_pos h0]

theorem refAll13_e {s : PSSite} {l : List PSLooked} {e ups : Int} (hok : e = 0 → EyesOK s) (h : ref05_Check_t s = some e) (hl : llen l ≤ 1000) (hu : U32ok ups) (hx : ∀ x ∈ l, U64ok x.2.2.1) : ref13_All_t (s, (l, ups)) = some (allR e s ups l) := by
  have hl' : l.length ≤ maxLen := by unfold llen at hl; unfold maxLen; omega
  unfold ref13_All_t allR
  rw [elimO_eq _ _ (refAsked13_e h hl')]
  by_cases h0 : askE e s l = 0
  · obtain ⟨rfl, h1, h2⟩ := askE_ok h0
    have hok := hok rfl
    have hn := llen_nonneg l
    rw [h0, cnd_neg _ _ (by rfl), if_neg (by simp)]
    refine iter_up (fun z : List PSLooked × Int => z.2) (llen l) (fun z => llen z.1 = z.2 ∧ ∀ j, 0 ≤ j → j < z.2 → idx z.1 j = idx (allV s ups l) j) (fun a => a = some (allV s ups l, (0 : Int))) (by omega) (by simp) hn ⟨rfl, fun j j0 j1 => absurd j1 (by simp only; omega)⟩ (fun z hI i0 i1 => ?_) (fun z hI hz => ?_)
    · obtain ⟨out, i⟩ := z
      obtain ⟨hlen, hj⟩ := hI
      simp only at i0 i1 hlen hj
      obtain ⟨x, hx', hxm⟩ := idx_get i0 i1
      simp only
      rw [cnd_pos _ _ (by simpa using i1), elimO_eq _ _ hx', letK_app, refHas_eq hu, elimO_eq _ _ (refStep13 (idx_el i0 (by omega)) (h2 x hxm) (hx x hxm)), cnd_pos _ _ (room_snoc (by omega)), wr_i64 (i + 1) (by omega) (by omega)]
      refine ⟨rfl, by simp only; rw [llen_snoc]; omega, fun j j0 j1 => ?_⟩
      simp only at j1 ⊢
      by_cases e : j = i
      · subst e
        rw [idx_allV hx', ← hlen, idx_snoc]
      · rw [idx_append j0, if_pos (by omega)]
        exact hj j j0 (by omega)
    · obtain ⟨out, i⟩ := z
      obtain ⟨hlen, hj⟩ := hI
      simp only at hz hlen hj
      simp only
      rw [cnd_neg _ _ (show decide (i < llen l) = false by simp; omega)]
      show some (out, (0 : Int)) = _
      have : out = allV s ups l := idx_ext (by unfold allV; rw [llen_mapIdx]; omega) fun j j0 j1 => hj j j0 (by omega)
      rw [this]
  · rw [cnd_pos _ _ (by simp [h0]), if_pos h0]

/-! ## each phase that has detectors has one that is believed -/
def WellV (s : PSSite) (l : List PSLooked) : Prop := ∀ i e x, idx s.2.2.2.2.2.1 i = some e → idx l i = some x → ∃ k e' x', idx s.2.2.2.2.2.1 k = some e' ∧ idx l k = some x' ∧ e'.1 = e.1 ∧ x'.2.2.2.1 = false

theorem ringWith_s {m i : Int} (hm : U32ok m) (h0 : 0 ≤ i) (h1 : i ≤ 31) : U32ok (ring_With (m, i)) ∧ ∀ j, bitI (ring_With (m, i)) j = (bitI m j || decide (i = j)) := by
  have e : ring_With (m, i) = bitop .or .u32 m ((2 ^ i.toNat : Nat) : Int) := by
    unfold ring_With; rw [letK_app, ring_bit_eq h0 h1]
  rw [e]
  exact ⟨or_ok hm (pow_ok h0 h1), fun j => by rw [bit_or hm (pow_ok h0 h1), bit_pow h0]⟩

theorem well13_e {s : PSSite} {l : List PSLooked} {e : Int} (hok : e = 0 → EyesOK s) (h : site_Check_t s = some e) (hl : llen l ≤ 1000) :
    ∃ b, eye_Well_t (s, l) = some (if askE e s l ≠ 0 then (false, askE e s l) else (b, 0)) ∧ (askE e s l = 0 → (b = true ↔ WellV s l)) := by
  have hl' : l.length ≤ maxLen := by unfold llen at hl; unfold maxLen; omega
  unfold eye_Well_t
  rw [elimO_eq _ _ (asked13_e h hl')]
  by_cases h0 : askE e s l = 0
  · obtain ⟨rfl, h1, h2⟩ := askE_ok h0
    have hok := hok rfl
    rw [h0, cnd_neg _ _ (by rfl)]
    simp only [ne_eq, not_true, if_false, true_implies]
    refine iter_up (fun z : Int × Int × Int => z.2.2) (llen l) (fun z => U32ok z.1 ∧ U32ok z.2.1 ∧ (∀ p, bitI z.1 p = true ↔ ∃ j e x, j < z.2.2 ∧ idx s.2.2.2.2.2.1 j = some e ∧ idx l j = some x ∧ e.1 = p) ∧ (∀ p, bitI z.2.1 p = true ↔ ∃ j e x, j < z.2.2 ∧ idx s.2.2.2.2.2.1 j = some e ∧ idx l j = some x ∧ e.1 = p ∧ x.2.2.2.1 = false))
      (fun a : Option (Bool × Int) => ∃ b, a = some (b, 0) ∧ (b = true ↔ WellV s l)) (by omega) (by simp) (llen_nonneg l) ⟨⟨by simp, by simp⟩, ⟨by simp, by simp⟩, fun p => ?_, fun p => ?_⟩ (fun z hI i0 i1 => ?_) (fun z hI hz => ?_)
    · simp only [bit_zero]
      exact ⟨fun h => (by cases h), fun ⟨j, e, x, h1, h2, _⟩ => by have := (idx_some_iff h2).1; omega⟩
    · simp only [bit_zero]
      exact ⟨fun h => (by cases h), fun ⟨j, e, x, h1, h2, _⟩ => by have := (idx_some_iff h2).1; omega⟩
    · obtain ⟨m, n, i⟩ := z
      obtain ⟨hm, hn, h3, h4⟩ := hI
      simp only at i0 i1 hm hn h3 h4
      obtain ⟨x, hx, _⟩ := idx_get i0 i1
      obtain ⟨ey, he, _⟩ := idx_get (l := s.2.2.2.2.2.1) i0 (by omega)
      have hph := hok.eyes i ey he
      have hp2 := hok.p2
      obtain ⟨a1, a2⟩ := ringWith_s hm hph.1 (by omega)
      obtain ⟨b1, b2⟩ := ringWith_s hn hph.1 (by omega)
      have key : ∀ p, bitI (ring_With (m, ey.1)) p = true ↔ ∃ j e x, j < i + 1 ∧ idx s.2.2.2.2.2.1 j = some e ∧ idx l j = some x ∧ e.1 = p := fun p => by
        rw [a2, Bool.or_eq_true, h3, decide_eq_true_eq]
        constructor
        · rintro (⟨j, e, x', j1, q⟩ | q)
          · exact ⟨j, e, x', by omega, q⟩
          · exact ⟨i, ey, x, by omega, he, hx, q⟩
        · rintro ⟨j, e, x', j1, q1, q2, q3⟩
          by_cases ej : j = i
          · subst ej; rw [he] at q1; cases q1; exact .inr q3
          · exact .inl ⟨j, e, x', by omega, q1, q2, q3⟩
      simp only
      rw [cnd_pos _ _ (by simpa using i1), elimO_eq _ _ hx, elimO_eq _ _ he, letK_app, letK_app, wr_i64 (i + 1) (by omega) (by omega)]
      have hb : eye_Believed x = !x.2.2.2.1 := rfl
      rw [hb]
      cases c : x.2.2.2.1 with
      | false =>
        rw [cnd_pos _ _ (by rfl), letK_app]
        refine ⟨rfl, a1, b1, key, fun p => ?_⟩
        show bitI (ring_With (n, ey.1)) p = true ↔ _
        rw [b2, Bool.or_eq_true, h4, decide_eq_true_eq]
        constructor
        · rintro (⟨j, e, x', j1, q⟩ | q)
          · exact ⟨j, e, x', by simp only; omega, q⟩
          · exact ⟨i, ey, x, by simp only; omega, he, hx, q, c⟩
        · rintro ⟨j, e, x', j1, q1, q2, q3, q4⟩
          by_cases ej : j = i
          · subst ej; rw [he] at q1; cases q1; exact .inr q3
          · exact .inl ⟨j, e, x', by simp only at j1; omega, q1, q2, q3, q4⟩
      | true =>
        rw [cnd_neg _ _ (by rfl)]
        refine ⟨rfl, a1, hn, key, fun p => ?_⟩
        show bitI n p = true ↔ _
        rw [h4]
        constructor
        · rintro ⟨j, e, x', j1, q⟩
          exact ⟨j, e, x', by simp only; omega, q⟩
        · rintro ⟨j, e, x', j1, q1, q2, q3, q4⟩
          by_cases ej : j = i
          · subst ej; rw [hx] at q2; cases q2; rw [c] at q4; cases q4
          · exact ⟨j, e, x', by simp only at j1; omega, q1, q2, q3, q4⟩
    · obtain ⟨m, n, i⟩ := z
      obtain ⟨hm, hn, h3, h4⟩ := hI
      simp only at hz hm hn h3 h4
      simp only
      rw [cnd_neg _ _ (show decide (i < llen l) = false by simp; omega)]
      refine ⟨_, rfl, ?_⟩
      rw [beq_iff_eq]
      constructor
      · intro hmn j e x hj hx
        have := (h3 e.1).2 ⟨j, e, x, by have := (idx_some_iff hx).2.1; omega, hj, hx, rfl⟩
        rw [hmn] at this
        obtain ⟨k, e', x', _, q1, q2, q3, q4⟩ := (h4 e.1).1 this
        exact ⟨k, e', x', q1, q2, q3, q4⟩
      · intro hw
        refine bit_ext hm hn fun p _ _ => ?_
        apply Bool.eq_iff_iff.2
        rw [h3, h4]
        constructor
        · rintro ⟨j, e, x, _, q1, q2, q3⟩
          obtain ⟨k, e', x', q4, q5, q6, q7⟩ := hw j e x q1 q2
          exact ⟨k, e', x', by have := (idx_some_iff q5).2.1; omega, q4, q5, by rw [q6, q3], q7⟩
        · rintro ⟨j, e, x, j1, q1, q2, q3, _⟩
          exact ⟨j, e, x, j1, q1, q2, q3⟩
  · rw [cnd_pos _ _ (by simp [h0])]
    exact ⟨false, by rw [if_pos h0], fun h => absurd h h0⟩

theorem eyeAll_law (x : PSSite × List PSLooked × Int) (hf : FitsAll [SSite, SLookeds, U32] x) : law13_EyeAll_t x = some true := by
  obtain ⟨s, l, ups⟩ := x
  have hs : SFits s := sfits hf.1
  have hu : U32ok ups := hf.2.2
  unfold law13_EyeAll_t
  obtain ⟨g, hg⟩ := great_s s hs
  rw [elimO_eq _ _ alive13, cnd_neg _ _ (by rfl), elimO_eq _ _ hg, cnd_if]
  split
  · rfl
  rename_i h1
  have hl : llen l ≤ 60 := by simp at h1; omega
  obtain ⟨e, h2, h3⟩ := check_s hs
  rw [elimO_eq _ _ h2, cnd_if]
  split
  · rfl
  rename_i h4
  have he : e = 0 := by simpa using h4
  subst he
  have hok := eyesOK (check_ok h3 rfl)
  have hn := hok.n
  rw [elimO_eq _ _ (all13_e (fun _ => hok) h2 (by omega) hu)]
  unfold allR
  by_cases h5 : askE 0 s l = 0
  · obtain ⟨_, k1, k2⟩ := askE_ok h5
    have hal : llen (allV s ups l) = llen l := by unfold allV; rw [llen_mapIdx]
    rw [if_neg (by simp [h5]), cnd_neg _ _ (by rfl), cnd_neg _ _ (by simp only [hal, k1]; simp)]
    have hmay : ∀ x ∈ allV s ups l, eye_may x = true := fun x hx => by
      obtain ⟨i, hi⟩ := mem_idx hx
      obtain ⟨i0, i1, _⟩ := idx_some_iff hi
      obtain ⟨y, hy, hym⟩ := idx_get (l := l) i0 (by omega)
      rw [idx_allV hy] at hi
      cases hi
      exact (may_iff _).2 (stepV_ok _ (k2 y hym) hok.heal.2).1
    refine iter_up (fun i : Int => i) (llen l) (fun _ => True) (fun a => a = some true) (by omega) (by simp) (llen_nonneg l) trivial (fun i _ i0 i1 => ?_) (fun i _ hi => ?_)
    · have i0 : 0 ≤ i := i0
      have i1 : i < llen l := i1
      obtain ⟨x, hx, hxm⟩ := idx_get i0 i1
      have hnx : eye_Next_t (s, (i, (x, bitI ups i))) = some (stepV s (el s.2.2.2.2.2.1 i) x (bitI ups i), 0) := by
        rw [next_e h2]
        unfold nextE
        rw [if_neg (by simp), if_neg (by omega), if_pos ((may_iff x).2 (k2 x hxm))]
      simp only
      rw [cnd_pos _ _ (by simpa using i1), elimO_eq _ _ hx, cnd_pos _ _ (by rfl), shrBit hu i0 (by omega), elimO_eq _ _ hnx, cnd_neg _ _ (by rfl), elimO_eq _ _ (idx_allV hx), cnd_neg _ _ (by simp), wr_i64 (i + 1) (by omega) (by omega)]
      exact ⟨rfl, trivial⟩
    · have hi : i = llen l := hi
      simp only
      rw [cnd_neg _ _ (show decide (i < llen l) = false by simp; omega)]
      obtain ⟨w, w1, w2⟩ := well13_e (l := allV s ups l) (fun _ => hok) h2 (by omega)
      have hask : askE 0 s (allV s ups l) = 0 := by
        unfold askE
        rw [if_neg (by simp), if_neg (by rw [hal, k1]; simp), if_pos hmay]
      rw [hask, if_neg (by simp)] at w1
      have w2 := w2 hask
      rw [elimO_eq _ _ w1]
      show iter _ _ _ _ = some true
      generalize hall : allV s ups l = all at hal hmay w2
      refine iter_up (fun z : Bool × Int => z.2) (llen all) (fun z => z.1 = true ↔ ∀ j e x, j < z.2 → idx s.2.2.2.2.2.1 j = some e → idx all j = some x → ∃ k e' x', idx s.2.2.2.2.2.1 k = some e' ∧ idx all k = some x' ∧ e'.1 = e.1 ∧ x'.2.2.2.1 = false) (fun a => a = some true) (by omega) (by simp) (llen_nonneg all) ⟨fun _ j e x j1 hj => by have := (idx_some_iff hj).1; simp only at j1; omega, fun _ => rfl⟩ (fun z hI j0 j1 => ?_) (fun z hI hz => ?_)
      · obtain ⟨want, j⟩ := z
        simp only at hI j0 j1
        obtain ⟨ey, hey, _⟩ := idx_get (l := s.2.2.2.2.2.1) j0 (by omega)
        obtain ⟨x, hx, _⟩ := idx_get (l := all) j0 j1
        simp only
        rw [cnd_pos _ _ (by simpa using j1)]
        refine iter_any (l := all) (fun k x' => ∃ e', idx s.2.2.2.2.2.1 k = some e' ∧ e'.1 = ey.1 ∧ x'.2.2.2.1 = false) _ false (by omega) (fun b k x' k0 k1 hk => ?_) (fun b k hk hb => ?_)
        · obtain ⟨e', he', _⟩ := idx_get (l := s.2.2.2.2.2.1) k0 (by omega)
          simp only
          rw [cnd_pos _ _ (by simpa using k1)]
          cases b with
          | true => exact ⟨true, rfl, fun _ => .inl rfl, fun _ => rfl⟩
          | false =>
            rw [cnd_neg _ _ rfl, elimO_eq _ _ he', elimO_eq _ _ hey]
            by_cases c : e'.1 = ey.1
            · rw [cnd_pos _ _ (by simpa using c), elimO_eq _ _ hk]
              refine ⟨_, rfl, ?_⟩
              rw [Bool.not_eq_true']
              exact ⟨fun h => .inr ⟨e', he', c, h⟩, fun h => h.elim (fun h => (by cases h)) fun ⟨_, _, _, q⟩ => q⟩
            · rw [cnd_neg _ _ (by simpa using c)]
              refine ⟨false, rfl, fun h => (by cases h), fun h => h.elim (fun h => (by cases h)) fun ⟨e2, q1, q2, _⟩ => ?_⟩
              rw [he'] at q1; cases q1; exact absurd q2 c
        · simp only
          rw [cnd_neg _ _ (show decide (k < llen all) = false by simp; omega), wr_i64 (j + 1) (by omega) (by omega)]
          refine ⟨rfl, ?_⟩
          simp only [Bool.and_eq_true]
          rw [hI, hb]
          constructor
          · rintro ⟨q1, q2⟩ i2 e2 x2 hlt hi2 hx2
            by_cases ej : i2 = j
            · subst ej
              rw [hey] at hi2; cases hi2
              rcases q2 with q2 | ⟨k, x', q3, e', q4, q5, q6⟩
              · cases q2
              · exact ⟨k, e', x', q4, q3, q5, q6⟩
            · exact q1 i2 e2 x2 (by omega) hi2 hx2
          · intro q
            refine ⟨fun i2 e2 x2 hlt => q i2 e2 x2 (by omega), .inr ?_⟩
            obtain ⟨k, e', x', q1, q2, q3, q4⟩ := q j ey x (by omega) hey hx
            exact ⟨k, x', q2, e', q1, q3, q4⟩
      · obtain ⟨want, j⟩ := z
        simp only at hI hz
        simp only
        rw [cnd_neg _ _ (show decide (j < llen all) = false by simp; omega)]
        show some _ = some true
        have : w = want := by
          apply Bool.eq_iff_iff.2
          rw [w2, hI]
          exact ⟨fun q j e x _ h1 h2 => q j e x h1 h2, fun q j e x h1 h2 => q j e x (by have := (idx_some_iff h2).2.1; omega) h1 h2⟩
        rw [this]; simp
  · rw [if_pos h5, cnd_pos _ _ (by simp [h5])]
    rfl

end Go.Proofs.YtiacnaijablgcaaDoor
