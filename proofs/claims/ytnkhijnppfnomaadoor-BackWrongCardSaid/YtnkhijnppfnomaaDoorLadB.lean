/- Part of a proof: plain readings of Go functions, their contracts, or plain facts of them. -/
import Derived.Test.YtnkhijnppfnomaaDoorLadM
import Derived.Test.YtnkhijnppfnomaaDoorDen2
namespace Go.Proofs.YtnkhijnppfnomaaDoor
open Go.Den

/-! # Lamps held against what they should show -/
def lightE (s : PSSite) (l : List Int) : Int := if llen l = llen s.2.1 then (if ∀ a ∈ l, a ≤ 4 then 0 else 2) else 4

theorem lights_s {s : PSSite} {l : List Int} (hl : l.length ≤ maxLen) : back_lights_t (s, l) = some (lightE s l) := by
  unfold back_lights_t lightE
  rw [cnd_if]
  split
  · rename_i h
    rw [if_neg (by simpa using h)]
  · rename_i h
    rw [if_pos (by simpa using h)]
    have conv : (∀ a ∈ l, a ≤ 4) ↔ (∀ (i : Int) a, idx l i = some a → a ≤ 4) := ⟨fun h i a ha => h a (idx_some_iff ha).2.2, fun h a ha => by obtain ⟨i, hi⟩ := mem_idx ha; exact h i a hi⟩
    refine iter_allQ (l := l) (fun a : Option Int => a = some (if ∀ a ∈ l, a ≤ 4 then 0 else 2)) (fun _ a => a ≤ 4) (some 2) (some 0) hl (fun i a h0 hi ha => ?_) (fun i hi => by simp [hi, cnd]) (fun h => by rw [if_pos (conv.2 h)]) (fun h => by rw [if_neg (fun hh => h (conv.1 hh))])
    simp only [hi, decide_true, cnd_true, ha, elimO_some]
    by_cases h4 : 4 < a
    · exact .inr ⟨by omega, by simp only [h4, decide_true, cnd_true]⟩
    · exact .inl ⟨by omega, by simp only [h4, decide_false, cnd_false]⟩

theorem lightE_ok {s : PSSite} {l : List Int} : lightE s l = 0 ↔ llen l = llen s.2.1 ∧ ∀ a ∈ l, a ≤ 4 := by
  unfold lightE
  split
  · rename_i h
    split
    · rename_i h2; exact ⟨fun _ => ⟨h, h2⟩, fun _ => rfl⟩
    · rename_i h2; exact ⟨fun hh => (by cases hh), fun hh => absurd hh.2 h2⟩
  · rename_i h; exact ⟨fun hh => (by cases hh), fun hh => absurd hh.1 h⟩

def wrongR (s : PSSite) (lit seen : List Int) : Bool × Int :=
  if lightE s lit ≠ 0 then (false, lightE s lit) else
  if llen seen = 0 then (false, 0) else
  if lightE s seen ≠ 0 then (false, lightE s seen) else (decide (lit ≠ seen), 0)

theorem wrong_s {s : PSSite} {lit seen : List Int} (hl : lit.length ≤ maxLen) (hsn : seen.length ≤ maxLen) : back_wrong_t (s, (lit, seen)) = some (wrongR s lit seen) := by
  unfold back_wrong_t
  refine iter_ind (fun k => k = 0 ∨ (k = 1 ∧ lightE s lit = 0) ∨ (k = 2 ∧ lightE s lit = 0 ∧ (llen seen = 0 ∨ lightE s seen = 0))) (fun k => (2 - k).toNat) (fun a => a = some (wrongR s lit seen)) ?_ lots 0 (.inl rfl) (by rw [lots_eq]; simp)
  rintro k (rfl | ⟨rfl, h1⟩ | ⟨rfl, h1, h2⟩)
  · have e1 : decide ((0 : Int) < llen (lit :: (seen :: []))) = true := rfl
    have e2 : idx (lit :: (seen :: [])) (0 : Int) = some lit := rfl
    have e3 : ((0 : Int) == 1 && llen lit == 0) = false := rfl
    simp only [e1, cnd_true, e2, elimO_some, e3, cnd_false, lights_s hl]
    by_cases h : lightE s lit = 0
    · simp only [h, beq_self_eq_true, Bool.not_true, cnd_false]
      exact ⟨.inr (.inl ⟨rfl, by first | exact h | trivial⟩), by decide⟩
    · simp only [beq_false_of_ne h, Bool.not_false, cnd_true]
      show _ = _
      unfold wrongR; rw [if_pos h]
  · have e1 : decide ((1 : Int) < llen (lit :: (seen :: []))) = true := rfl
    have e2 : idx (lit :: (seen :: [])) (1 : Int) = some seen := rfl
    simp only [e1, cnd_true, e2, elimO_some, beq_self_eq_true, Bool.true_and]
    by_cases hz : llen seen = 0
    · simp only [hz, beq_self_eq_true, cnd_true]
      exact ⟨.inr (.inr ⟨rfl, h1, by first | exact .inl hz | exact .inl trivial⟩), by decide⟩
    · simp only [beq_false_of_ne hz, cnd_false, lights_s hsn, elimO_some]
      by_cases h : lightE s seen = 0
      · simp only [h, beq_self_eq_true, Bool.not_true, cnd_false]
        exact ⟨.inr (.inr ⟨rfl, h1, by first | exact .inr h | exact .inr trivial⟩), by decide⟩
      · simp only [beq_false_of_ne h, Bool.not_false, cnd_true]
        show _ = _
        unfold wrongR; rw [if_neg (by simp [h1]), if_neg hz, if_pos h]
  · have e1 : decide ((2 : Int) < llen (lit :: (seen :: []))) = false := rfl
    simp only [e1, cnd_false]
    show iter _ _ _ _ = _
    have hlit := (lightE_ok.1 h1).1
    refine iter_allQ (l := seen) (fun a : Option (Bool × Int) => a = some (wrongR s lit seen)) (fun i a => idx lit i = some a) (some (true, 0)) (some (false, 0)) hsn (fun i a h0 hi ha => ?_) (fun i hi => by simp [hi, cnd]) (fun h => ?_) (fun h => ?_)
    · have h3 : llen seen = llen s.2.1 := by
        rcases h2 with h2 | h2
        · omega
        · exact (lightE_ok.1 h2).1
      obtain ⟨b, hb, _⟩ := idx_get (l := lit) h0 (by omega)
      simp only [hi, decide_true, cnd_true, ha, elimO_some, hb]
      by_cases e : b = a
      · subst e; exact .inl ⟨rfl, by simp only [beq_self_eq_true, Bool.not_true, cnd_false]⟩
      · exact .inr ⟨fun hh => e (Option.some.inj hh), by simp only [beq_false_of_ne e, Bool.not_false, cnd_true]⟩
    · unfold wrongR
      rw [if_neg (by simp [h1])]
      split
      · rfl
      · rename_i hz
        have h2 := h2.resolve_left hz
        rw [if_neg (by simp [h2])]
        have : lit = seen := idx_ext (by have := (lightE_ok.1 h2).1; omega) fun j j0 j1 => by
          obtain ⟨a, ha, _⟩ := idx_get (l := seen) j0 (by have := (lightE_ok.1 h2).1; omega)
          rw [ha]; exact h j a ha
        simp [this]
    · unfold wrongR
      rw [if_neg (by simp [h1])]
      have hne : seen ≠ [] := fun e => h (fun i a ha => by subst e; have := idx_some_iff ha; exact absurd this.2.2 (by simp))
      have hz : ¬ llen seen = 0 := by
        unfold llen
        cases seen with
        | nil => exact absurd rfl hne
        | cons => simp; omega
      rw [if_neg hz]
      have h2 := h2.resolve_left hz
      rw [if_neg (by simp [h2])]
      have : lit ≠ seen := fun e => h (fun i a ha => by rw [e]; exact ha)
      simp [this]

theorem counted_e {s : PSSite} {n e : Int} (h : site_Check_t s = some e) : back_counted_t (s, n) = some (if e ≠ 0 then e else if n < 0 ∨ 1048576 < n then 2 else 0) := by
  unfold back_counted_t
  simp only [h, elimO_some, cnd_if]
  by_cases h0 : e = 0
  · subst h0
    simp only [beq_self_eq_true, Bool.not_true, Bool.false_eq_true, if_false, ne_eq, not_true]
    by_cases h1 : n < 0 ∨ 1048576 < n
    · rw [if_pos h1, if_pos (by simpa using h1)]
    · rw [if_neg h1, if_neg (by simpa using h1)]
  · rw [if_pos (by simpa using h0), if_pos h0]

def nextR (e : Int) (s : PSSite) (n : Int) (lit seen : List Int) : Int × Int :=
  if e ≠ 0 then (0, e) else if n < 0 ∨ 1048576 < n then (0, 2) else
  if (wrongR s lit seen).2 ≠ 0 ∨ (wrongR s lit seen).1 = false then (0, (wrongR s lit seen).2) else (min (n + 1) 1048576, 0)

theorem backNext_s {s : PSSite} {n e : Int} {lit seen : List Int} (h : site_Check_t s = some e) (hl : lit.length ≤ maxLen) (hsn : seen.length ≤ maxLen) : back_Next_t (s, (n, (lit, seen))) = some (nextR e s n lit seen) := by
  unfold back_Next_t nextR
  simp only [counted_e h, elimO_some, wrong_s hl hsn]
  by_cases h0 : e = 0
  · subst h0
    simp only [ne_eq, not_true, if_false]
    by_cases h1 : n < 0 ∨ 1048576 < n
    · simp only [if_pos h1]; rfl
    · simp only [if_neg h1, beq_self_eq_true, Bool.not_true, cnd_false]
      rw [cnd_if, gmin_eq, wr_i64 (n + 1) (by omega) (by omega)]
      by_cases h2 : (wrongR s lit seen).2 ≠ 0 ∨ (wrongR s lit seen).1 = false
      · rw [if_pos h2, if_pos (by simpa using h2)]
      · rw [if_neg h2, if_neg (by simpa using h2)]
  · simp only [ne_eq, h0, not_false_iff, if_true, beq_false_of_ne h0, Bool.not_false, cnd_true]

def latchR (e : Int) (s : PSSite) (n : Int) : Bool × Int :=
  if e ≠ 0 then (false, e) else if n < 0 ∨ 1048576 < n then (false, 2) else (decide (s.2.2.2.2.2.2.2.1 ≤ n), 0)

theorem latch_s {s : PSSite} {n e : Int} (h : site_Check_t s = some e) : back_Latches_t (s, n) = some (latchR e s n) := by
  unfold back_Latches_t latchR
  simp only [counted_e h, elimO_some]
  by_cases h0 : e = 0
  · subst h0
    simp only [ne_eq, not_true, if_false]
    by_cases h1 : n < 0 ∨ 1048576 < n
    · simp only [if_pos h1]; rfl
    · simp only [if_neg h1, beq_self_eq_true, Bool.not_true, cnd_false]
  · simp only [ne_eq, h0, not_false_iff, if_true, beq_false_of_ne h0, Bool.not_false, cnd_true]

theorem backWrong_s {s : PSSite} {e : Int} {lit seen : List Int} (h : site_Check_t s = some e) (hl : lit.length ≤ maxLen) (hsn : seen.length ≤ maxLen) : back_Wrong_t (s, (lit, seen)) = some (if e ≠ 0 then (false, e) else wrongR s lit seen) := by
  unfold back_Wrong_t
  simp only [h, elimO_some, wrong_s hl hsn]
  by_cases h0 : e = 0
  · subst h0; simp only [beq_self_eq_true, Bool.not_true, cnd_false, ne_eq, not_true, if_false]
  · simp only [beq_false_of_ne h0, Bool.not_false, cnd_true, ne_eq, h0, not_false_iff, if_true]

theorem alive10 : law10_alive_t () = some true := by kernel_rfl

theorem backNames_law (x : Unit) (_ : FitsAll [] x) : law10_BackNames_t x = some true := by cases x; kernel_rfl

theorem fits_u8s {l : List Int} (h : Fits U8s l) : l.length ≤ maxLen ∧ ∀ a ∈ l, 0 ≤ a ∧ a ≤ 255 := h

theorem backRight_law (x : PSSite × Int × List Int × Int × Int) (hf : FitsAll [SSite, I64, U8s, I64, U8] x) : law10_BackRight_t x = some true := by
  obtain ⟨s, n, l, i, a⟩ := x
  have hs : SFits s := sfits hf.1
  have hl : l.length ≤ maxLen ∧ ∀ a ∈ l, 0 ≤ a ∧ a ≤ 255 := fits_u8s hf.2.2.1
  have hi : -9223372036854775808 ≤ i ∧ i ≤ 9223372036854775807 := hf.2.2.2.1
  have ha : 0 ≤ a ∧ a ≤ 255 := hf.2.2.2.2
  unfold law10_BackRight_t
  obtain ⟨g, hg⟩ := great_s s hs
  simp only [alive10, elimO_some, Bool.not_true, cnd_false, hg]
  rw [cnd_if]
  split
  · rfl
  rename_i h1
  have hlen : llen l ≤ 100 := by simp at h1; omega
  obtain ⟨e, h2, h3⟩ := check_s hs
  simp only [h2, elimO_some]
  rw [cnd_if]
  split
  · rfl
  rename_i h4
  simp only [Bool.or_eq_true, Bool.not_eq_true', beq_eq_false_iff_ne, ne_eq, decide_eq_true_eq, not_or, Decidable.not_not] at h4
  obtain ⟨⟨rfl, hn0⟩, hn1⟩ := h4
  have hok := check_ok h3 rfl
  have hn1 := hok.shape.n1
  have hnil : ([] : List Int).length ≤ maxLen := Nat.zero_le _
  have w1 : back_Wrong_t (s, (l, l)) = some (false, lightE s l) := by
    rw [backWrong_s h2 hl.1 hl.1, if_neg (by simp)]
    unfold wrongR
    split
    · rfl
    · rename_i h; rw [Decidable.not_not] at h
      split
      · simp only [h]
      · simp [h]
  have w2 : back_Next_t (s, (n, (l, []))) = some (0, lightE s l) := by
    rw [backNext_s h2 hl.1 hnil]
    unfold nextR
    rw [if_neg (by simp), if_neg (by omega)]
    have : wrongR s l [] = (false, lightE s l) := by
      unfold wrongR
      split
      · rfl
      · rename_i h; rw [Decidable.not_not] at h
        simp [llen, h]
    rw [this, if_pos (.inr rfl)]
  simp only [w1, w2, elimO_some, Bool.or_self]
  by_cases h5 : lightE s l = 0
  · simp only [h5, beq_self_eq_true, Bool.not_true, cnd_false, Bool.or_self]
    rw [cnd_if]
    split
    · rfl
    rename_i h6
    simp only [Bool.or_eq_true, decide_eq_true_eq, not_or] at h6
    obtain ⟨⟨i0, i1⟩, a4⟩ := h6
    obtain ⟨b, hb, hbm⟩ := idx_get (l := l) (i := i) (by omega) (by omega)
    simp only [hb, elimO_some]
    rw [cnd_if]
    split
    · rfl
    rename_i h7
    have h7 : ¬ a = b := by simpa using h7
    have hroom : (true && roomOK (0 + llen l) 1) = true := by rw [room_le (by omega)]; rfl
    have hb' : idx (([] : List Int) ++ l) i = some b := hb
    rw [cnd_pos _ _ hroom, elimO_eq _ _ hb', elimO_eq _ _ hb']
    show elimO (back_Wrong_t (s, (l, lset l i a))) _ _ = _
    have hset : (lset l i a).length ≤ maxLen := by have := llen_lset l i a; unfold llen at this; have := hl.1; omega
    obtain ⟨e1, e2⟩ := lightE_ok.1 h5
    have he : lightE s (lset l i a) = 0 := by
      refine lightE_ok.2 ⟨by rw [llen_lset]; exact e1, fun c hc => ?_⟩
      rcases List.mem_or_eq_of_mem_set hc with hc | hc
      · exact e2 c hc
      · rw [hc]; omega
    have hne : l ≠ lset l i a := fun hh => h7 (by
      have := idx_lset (l := l) (i := i) (by omega) (by omega) a i
      rw [← hh, hb, if_pos rfl] at this
      exact (Option.some.inj this).symm)
    have hw : wrongR s l (lset l i a) = (true, 0) := by
      unfold wrongR
      rw [if_neg (by simp [h5]), llen_lset, if_neg (by omega), if_neg (by simp [he])]
      simp [hne]
    rw [backWrong_s h2 hl.1 hset, if_neg (by simp), elimO_some]
    show elimO (back_Next_t (s, (n, (l, lset l i a)))) _ _ = _
    rw [backNext_s h2 hl.1 hset, elimO_some, hw]
    unfold nextR
    rw [hw, if_neg (by simp), if_neg (by omega), if_neg (by simp), gmin_eq, wr_i64 (n + 1) (by omega) (by omega)]
    simp
  · simp only [beq_false_of_ne h5, Bool.not_false, cnd_true, beq_self_eq_true, Bool.not_true, Bool.and_self]

theorem backFeed_law (x : PSSite × List Bool) (hf : FitsAll [SSite, Bos] x) : law10_BackFeed_t x = some true := by
  obtain ⟨s, l⟩ := x
  have hs : SFits s := sfits hf.1
  unfold law10_BackFeed_t
  obtain ⟨g, hg⟩ := great_s s hs
  simp only [alive10, elimO_some, Bool.not_true, cnd_false, hg]
  rw [cnd_if]
  split
  · rfl
  rename_i h1
  have hlen : llen l ≤ 200 := by simp at h1; omega
  obtain ⟨e, h2, h3⟩ := check_s hs
  simp only [h2, elimO_some]
  rw [cnd_if]
  split
  · rfl
  rename_i h4
  have he : e = 0 := by simpa using h4
  subst he
  have hok := check_ok h3 rfl
  have hn1 := hok.shape.n1
  have hn2 := hok.shape.n2
  generalize hN : llen s.2.1 = N at hn1 hn2 ⊢
  have mk : ((decide (0 ≤ N)) && ((decide (N ≤ N)) && (makeOK N 1))) = true := by rw [make_le (by omega)]; simp; omega
  rw [cnd_pos _ _ mk, cnd_pos _ _ mk]
  refine iter_ind (fun z => 0 ≤ z.1 ∧ z.1 ≤ N ∧ llen z.2.1 = N ∧ llen z.2.2 = N ∧ ∀ j, 0 ≤ j → j < z.1 → idx z.2.1 j = some 1 ∧ idx z.2.2 j = some 1) (fun z => (N - z.1).toNat) (fun a => a = some true) ?_ lots (0, (lrep N 0, lrep N 0)) ⟨by simp, by simp only; omega, llen_lrep (by omega) _, llen_lrep (by omega) _, fun j j0 j1 => absurd j1 (by simp only; omega)⟩ (by rw [lots_eq]; simp only; omega)
  rintro ⟨i, p, q⟩ ⟨i0, i1, hp, hq, hj⟩
  simp only at i0 i1 hp hq hj
  by_cases hi : i < N
  · obtain ⟨a, ha, _⟩ := idx_get (l := p) i0 (by omega)
    obtain ⟨b, hb, _⟩ := idx_get (l := q) i0 (by omega)
    simp only [hp, hi, decide_true, cnd_true, ha, hb, elimO_some]
    rw [wr_i64 (i + 1) (by omega) (by omega)]
    refine ⟨⟨by simp only; omega, by simp only; omega, by rw [llen_lset]; exact hp, by rw [llen_lset]; exact hq, fun j j0 j1 => ?_⟩, (by show (N - (i + 1)).toNat < (N - i).toNat; omega)⟩
    simp only at j1 ⊢
    rw [idx_lset i0 (by omega), idx_lset i0 (by omega)]
    split
    · exact ⟨rfl, rfl⟩
    · exact hj j j0 (by omega)
  · simp only [hp, hi, decide_false, cnd_false]
    show _ = some true
    have hp1 : ∀ a ∈ p, a = 1 := fun a ha => by
      obtain ⟨j, hja⟩ := mem_idx ha
      obtain ⟨j0, j1, _⟩ := idx_some_iff hja
      have := (hj j j0 (by omega)).1
      rw [hja] at this; exact Option.some.inj this
    have hq1 : ∀ a ∈ q, a = 1 := fun a ha => by
      obtain ⟨j, hja⟩ := mem_idx ha
      obtain ⟨j0, j1, _⟩ := idx_some_iff hja
      have := (hj j j0 (by omega)).2
      rw [hja] at this; exact Option.some.inj this
    have hq0 : idx q 0 = some 1 := (hj 0 (by omega) (by omega)).2
    have hp0 : idx p 0 = some 1 := (hj 0 (by omega) (by omega)).1
    simp only [hq0, elimO_some]
    have hpl : p.length ≤ maxLen := by unfold llen at hp; unfold maxLen; omega
    have hsl : (lset q 0 2).length ≤ maxLen := by have := llen_lset q 0 2; unfold llen at this hq; unfold maxLen; omega
    have lp : lightE s p = 0 := lightE_ok.2 ⟨by omega, fun a ha => by rw [hp1 a ha]; decide⟩
    have lq : lightE s (lset q 0 2) = 0 := lightE_ok.2 ⟨by rw [llen_lset]; omega, fun a ha => by
      rcases List.mem_or_eq_of_mem_set ha with ha | ha
      · rw [hq1 a ha]; decide
      · rw [ha]; decide⟩
    have hne : p ≠ lset q 0 2 := fun hh => by
      have := idx_lset (l := q) (i := 0) (by omega) (by omega) 2 0
      rw [← hh, hp0, if_pos rfl] at this
      cases this
    have wp : wrongR s p p = (false, 0) := by
      unfold wrongR
      rw [if_neg (by simp [lp]), if_neg (by omega), if_neg (by simp [lp])]; simp
    have wq : wrongR s p (lset q 0 2) = (true, 0) := by
      unfold wrongR
      rw [if_neg (by simp [lp]), llen_lset, if_neg (by omega), if_neg (by simp [lq])]; simp [hne]
    refine iter_ind (fun z => z.1 = z.2.1 ∧ 0 ≤ z.2.1 ∧ z.2.1 ≤ z.2.2 ∧ z.2.2 ≤ llen l) (fun z => (llen l - z.2.2).toNat) (fun a => a = some true) ?_ lots (0, (0, 0)) ⟨rfl, by simp, by simp, llen_nonneg l⟩ (by rw [lots_eq]; simp only; omega)
    rintro ⟨n, k, i⟩ ⟨r1, r2, r3, r4⟩
    simp only at r1 r2 r3 r4
    subst r1
    by_cases hil : i < llen l
    · obtain ⟨b, hb, _⟩ := idx_get (l := l) (i := i) (by omega) hil
      simp only [hil, decide_true, cnd_true, hb, elimO_some, backNext_s h2 hpl hpl, backNext_s h2 hpl hsl, latch_s h2]
      have b0 : ¬ (n < 0 ∨ 1048576 < n) := by omega
      cases b with
      | false =>
        have : nextR 0 s n p p = (0, 0) := by
          unfold nextR; rw [wp, if_neg (by simp), if_neg b0, if_pos (.inr rfl)]
        have l0 : latchR 0 s 0 = (decide (s.2.2.2.2.2.2.2.1 ≤ 0), 0) := by unfold latchR; rw [if_neg (by simp), if_neg (by omega)]
        simp only [this, l0, Bool.not_false, cnd_true, beq_self_eq_true, Bool.not_true, Bool.or_self, cnd_false]
        rw [wr_i64 (i + 1) (by omega) (by omega)]
        exact ⟨⟨rfl, by simp, by simp only; omega, by simp only; omega⟩, (by show (llen l - (i + 1)).toNat < (llen l - i).toNat; omega)⟩
      | true =>
        have : nextR 0 s n p (lset q 0 2) = (n + 1, 0) := by
          unfold nextR; rw [wq, if_neg (by simp), if_neg b0, if_neg (by simp)]
          rw [Int.min_eq_left (by omega)]
        have l0 : latchR 0 s (n + 1) = (decide (s.2.2.2.2.2.2.2.1 ≤ n + 1), 0) := by unfold latchR; rw [if_neg (by simp), if_neg (by omega)]
        simp only [this, l0, Bool.not_true, cnd_false]
        rw [wr_i64 (n + 1) (by omega) (by omega), wr_i64 (i + 1) (by omega) (by omega)]
        simp only [beq_self_eq_true, Bool.not_true, Bool.or_self, cnd_false]
        exact ⟨⟨rfl, by simp only; omega, by simp only; omega, by simp only; omega⟩, (by show (llen l - (i + 1)).toNat < (llen l - i).toNat; omega)⟩
    · simp only [hil, decide_false, cnd_false]
      rfl

end Go.Proofs.YtnkhijnppfnomaaDoor
