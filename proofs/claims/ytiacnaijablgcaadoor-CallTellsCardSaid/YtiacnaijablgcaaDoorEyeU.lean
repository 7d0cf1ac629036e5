/- Part of a proof: plain readings of Go functions, their contracts, or plain facts of them. -/
import Derived.Test.YtiacnaijablgcaaDoorEyeK
namespace Go.Proofs.YtiacnaijablgcaaDoor
open Go.Den

/-! # The document's calls -/
theorem refReal14_e {s : PSSite} {l : List PSLooked} {e : Int} (hok : e = 0 → EyesOK s) (h : ref05_Check_t s = some e) (hl : llen l ≤ 1000) :
    ∃ c, ref14_Real_t (s, l) = some (if askE e s l ≠ 0 then (0, askE e s l) else (c, 0)) ∧ (askE e s l = 0 → U32ok c ∧ ∀ p, bitI c p = true ↔ Called s l p) := by
  have hl' : l.length ≤ maxLen := by unfold llen at hl; unfold maxLen; omega
  unfold ref14_Real_t
  rw [elimO_eq _ _ (refAsked13_e h hl')]
  by_cases h0 : askE e s l = 0
  · obtain ⟨rfl, k1, k2⟩ := askE_ok h0
    have hok := hok rfl
    have hp2 := hok.p2
    rw [h0, cnd_neg _ _ (by rfl)]
    simp only [ne_eq, not_true, if_false, true_implies]
    refine iter_up (fun z : Int × Int => z.2) (llen s.2.2.2.2.1) (fun z => U32ok z.1 ∧ ∀ q, bitI z.1 q = true ↔ q < z.2 ∧ Called s l q) (fun a : Option (Int × Int) => ∃ c, a = some (c, 0) ∧ U32ok c ∧ ∀ p, bitI c p = true ↔ Called s l p) (by omega) (by simp) (llen_nonneg _) ⟨⟨by simp, by simp⟩, fun q => ?_⟩ (fun z hI p0 p1 => ?_) (fun z hI hz => ?_)
    · simp only [bit_zero]
      refine ⟨fun h => (by cases h), fun ⟨j1, hc⟩ => ?_⟩
      rcases hc with ⟨ph, q1, _⟩ | ⟨i, e, x, q1, _, q3, _⟩
      · have := (idx_some_iff q1).1; omega
      · have := (hok.eyes i e q1).1; omega
    · obtain ⟨m, p⟩ := z
      obtain ⟨hm, hb⟩ := hI
      simp only at p0 p1 hm hb
      obtain ⟨ph, hph, _⟩ := idx_get (l := s.2.2.2.2.1) p0 p1
      simp only
      rw [cnd_pos _ _ (decide_eq_true p1), elimO_eq _ _ hph]
      refine iter_any (l := l) (fun i x => ∃ e, idx s.2.2.2.2.2.1 i = some e ∧ e.1 = p ∧ eye_Wants x = true) _ ph.2.2.2.2 (by omega) (fun b i x i0 i1 hx => ?_) (fun b i hi hbb => ?_)
      · obtain ⟨ey, hey, _⟩ := idx_get (l := s.2.2.2.2.2.1) i0 (by omega)
        simp only
        rw [cnd_pos _ _ (decide_eq_true i1)]
        cases b with
        | true => exact ⟨true, rfl, fun _ => .inl rfl, fun _ => rfl⟩
        | false =>
          rw [cnd_neg _ _ rfl, elimO_eq _ _ hey]
          by_cases ce : ey.1 = p
          · rw [cnd_pos _ _ (by simpa using ce), elimO_eq _ _ hx, letK_app]
            exact ⟨eye_Wants x, rfl, fun h => .inr ⟨ey, hey, ce, h⟩, fun h => h.elim (fun h => (by cases h)) fun ⟨_, _, _, q⟩ => q⟩
          · rw [cnd_neg _ _ (by simpa using ce)]
            exact ⟨false, rfl, fun h => (by cases h), fun h => h.elim (fun h => (by cases h)) fun ⟨e2, r1, r2, _⟩ => by rw [hey] at r1; cases r1; exact absurd r2 ce⟩
      · have hcall : b = true ↔ Called s l p := hbb.trans (or_congr ⟨fun h => ⟨ph, hph, h⟩, fun ⟨ph', r1, r2⟩ => by rw [hph] at r1; cases r1; exact r2⟩ ⟨fun ⟨i, x, r1, e, r2, r3, r4⟩ => ⟨i, e, x, r2, r1, r3, r4⟩, fun ⟨i, e, x, r2, r1, r3, r4⟩ => ⟨i, x, r1, e, r2, r3, r4⟩⟩)
        simp only
        rw [cnd_neg _ _ (decide_eq_false hi), wr_i64 (p + 1) (by omega) (by omega)]
        cases cb : b with
        | true =>
          obtain ⟨a1, a2⟩ := refWith_s hm p0 (by omega)
          rw [cnd_pos _ _ rfl, letK_app]
          refine ⟨rfl, a1, fun q => ?_⟩
          show bitI (ref02_With (m, p)) q = true ↔ _
          rw [a2, Bool.or_eq_true, hb, decide_eq_true_eq]
          constructor
          · rintro (⟨q1, q2⟩ | q1)
            · exact ⟨by simp only; omega, q2⟩
            · subst q1; exact ⟨by simp only; omega, hcall.1 cb⟩
          · rintro ⟨q1, q2⟩
            by_cases ep : p = q
            · exact .inr ep
            · exact .inl ⟨by simp only at q1; omega, q2⟩
        | false =>
          rw [cnd_neg _ _ rfl]
          refine ⟨rfl, hm, fun q => ?_⟩
          show bitI m q = true ↔ _
          rw [hb]
          refine ⟨fun ⟨q1, q2⟩ => ⟨by simp only; omega, q2⟩, fun ⟨q1, q2⟩ => ⟨?_, q2⟩⟩
          by_cases ep : q = p
          · subst ep
            have := hcall.2 q2
            rw [cb] at this; cases this
          · simp only at q1; omega
    · obtain ⟨m, p⟩ := z
      obtain ⟨hm, hb⟩ := hI
      simp only at hz hm hb
      simp only
      rw [cnd_neg _ _ (show decide (p < llen s.2.2.2.2.1) = false by simp; omega)]
      refine ⟨m, rfl, hm, fun q => (hb q).trans ⟨fun h => h.2, fun h => ⟨?_, h⟩⟩⟩
      rcases h with ⟨ph, q1, _⟩ | ⟨i, e, x, q1, _, q3, _⟩
      · have := (idx_some_iff q1).2.1; omega
      · have := (hok.eyes i e q1).2; omega
  · rw [cnd_pos _ _ (by simp [h0])]
    exact ⟨0, by rw [if_pos h0], fun h => absurd h h0⟩

theorem refMay14 {s : PSSite} {c : Int} (hc : U32ok c) (hn : llen s.2.2.2.2.1 ≤ 8) : ref14_May (s, c) = decide (shrop .u32 c (llen s.2.2.2.2.1) = 0) := by
  have h := below_iff hc (llen_nonneg s.2.2.2.2.1) (by omega)
  unfold ref14_May
  apply Bool.eq_iff_iff.2
  rw [decide_eq_true_eq, decide_eq_true_eq, ← h]
  show c < shlop .u32 1 (wr .u64 (llen s.2.2.2.2.1)) ↔ _
  omega

theorem called_in {s : PSSite} (hok : EyesOK s) {l : List PSLooked} {q : Int} (h : Called s l q) : 0 ≤ q ∧ q < llen s.2.2.2.2.1 := by
  rcases h with ⟨ph, q1, _⟩ | ⟨i, e, x, q1, _, q3, _⟩
  · exact ⟨(idx_some_iff q1).1, (idx_some_iff q1).2.1⟩
  · have := hok.eyes i e q1; omega

theorem refNext14_e {s : PSSite} {l : List PSLooked} {e c g : Int} (hok : e = 0 → EyesOK s) (h : ref05_Check_t s = some e) (hl : llen l ≤ 1000) (hc : U32ok c) :
    ∃ n, ref14_Next_t (s, (c, (l, g))) = some (if askE e s l ≠ 0 then (0, askE e s l) else if askC s c g ≠ 0 then (0, askC s c g) else (n, 0)) ∧ (askE e s l = 0 → askC s c g = 0 → NextIs s l c g n) := by
  obtain ⟨r, r1, r2⟩ := refReal14_e hok h hl
  unfold ref14_Next_t
  rw [elimO_eq _ _ r1]
  by_cases h0 : askE e s l = 0
  · obtain ⟨rfl, _, _⟩ := askE_ok h0
    have hok := hok rfl
    have hp2 := hok.p2
    obtain ⟨hr, hb⟩ := r2 h0
    rw [if_neg (by simp [h0]), cnd_neg _ _ (by rfl), letK_app, refMay14 hc hp2]
    simp only [h0, ne_eq, not_true, if_false, true_implies]
    unfold askC
    by_cases h1 : shrop .u32 c (llen s.2.2.2.2.1) = 0
    · have hhi := (shr_zero hc (llen_nonneg s.2.2.2.2.1) (by omega)).1 h1
      rw [cnd_neg _ _ (by simpa using h1), if_neg (by simpa using h1)]
      by_cases h2 : g < -1 ∨ llen s.2.2.2.2.1 ≤ g
      · rw [cnd_pos _ _ (by simpa using h2), if_pos h2]
        exact ⟨0, rfl, fun h => (by cases h)⟩
      · rw [cnd_neg _ _ (by simpa using h2), if_neg h2]
        simp only [not_true, if_false, true_implies]
        refine iter_up (fun z : Int × Int => z.2) (llen s.2.2.2.2.1) (fun z => U32ok z.1 ∧ ∀ q, bitI z.1 q = true ↔ q < z.2 ∧ q ≠ g ∧ (bitI c q = true ∨ bitI r q = true)) (fun a : Option (Int × Int) => ∃ n, a = some (n, 0) ∧ NextIs s l c g n) (by omega) (by simp) (llen_nonneg _) ⟨⟨by simp, by simp⟩, fun q => ?_⟩ (fun z hI p0 p1 => ?_) (fun z hI hz => ?_)
        · simp only [bit_zero]
          refine ⟨fun h => (by cases h), fun ⟨q1, _, q2⟩ => ?_⟩
          rw [bit_neg q1, bit_neg q1] at q2
          rcases q2 with q2 | q2 <;> cases q2
        · obtain ⟨m, p⟩ := z
          obtain ⟨hm, hbm⟩ := hI
          simp only at p0 p1 hm hbm
          simp only
          rw [cnd_pos _ _ (decide_eq_true p1), refHas_eq hc, refHas_eq hr, wr_i64 (p + 1) (by omega) (by omega), cnd_if]
          split
          · rename_i c1
            simp only [Bool.and_eq_true, Bool.not_eq_true', beq_eq_false_iff_ne, ne_eq, Bool.or_eq_true] at c1
            obtain ⟨a1, a2⟩ := refWith_s hm p0 (by omega)
            rw [letK_app]
            refine ⟨rfl, a1, fun q => ?_⟩
            show bitI (ref02_With (m, p)) q = true ↔ _
            rw [a2, Bool.or_eq_true, hbm, decide_eq_true_eq]
            constructor
            · rintro (⟨q1, q2⟩ | q1)
              · exact ⟨by simp only; omega, q2⟩
              · subst q1; exact ⟨by simp only; omega, c1⟩
            · rintro ⟨q1, q2⟩
              by_cases ep : p = q
              · exact .inr ep
              · exact .inl ⟨by simp only at q1; omega, q2⟩
          · rename_i c1
            simp only [Bool.and_eq_true, Bool.not_eq_true', beq_eq_false_iff_ne, ne_eq, Bool.or_eq_true] at c1
            refine ⟨rfl, hm, fun q => ?_⟩
            show bitI m q = true ↔ _
            rw [hbm]
            refine ⟨fun ⟨q1, q2⟩ => ⟨by simp only; omega, q2⟩, fun ⟨q1, q2⟩ => ⟨?_, q2⟩⟩
            by_cases ep : q = p
            · subst ep; exact absurd q2 c1
            · simp only at q1; omega
        · obtain ⟨m, p⟩ := z
          obtain ⟨hm, hbm⟩ := hI
          simp only at hz hm hbm
          simp only
          rw [cnd_neg _ _ (show decide (p < llen s.2.2.2.2.1) = false by simp; omega)]
          refine ⟨m, rfl, hm, fun q => ?_⟩
          rw [hbm, hb]
          refine ⟨fun h => h.2, fun h => ⟨?_, h⟩⟩
          rcases h.2 with h3 | h3
          · apply Int.not_le.1
            intro hge
            rw [hhi q (by omega)] at h3; cases h3
          · have := (called_in hok h3).2; omega
    · rw [cnd_pos _ _ (by simpa using h1), if_pos h1]
      exact ⟨0, rfl, fun h => (by cases h)⟩
  · rw [if_pos h0, cnd_pos _ _ (by simp [h0])]
    exact ⟨0, by rw [if_pos h0], fun h => absurd h h0⟩

theorem firstIs_hi {n c ph p : Int} (h1 : ph < p) (h2 : p < n) (p0 : -1 ≤ ph) (hb : bitI c p = true) (hq : ∀ q, ph < q → q < p → bitI c q = false) : FirstIs n c ph p := by
  refine .inl ⟨p - ph, by omega, by omega, by unfold rnd; rw [if_pos (by omega)]; omega, hb, fun j j0 j1 => ?_⟩
  unfold rnd
  rw [if_pos (by omega)]
  exact hq _ (by omega) (by omega)
theorem firstIs_lo {n c ph p : Int} (h1 : 0 ≤ p) (h2 : p ≤ ph) (p1 : ph < n) (hb : bitI c p = true) (hq : ∀ q, ph < q → q < n → bitI c q = false) (hr : ∀ q, 0 ≤ q → q < p → bitI c q = false) : FirstIs n c ph p := by
  refine .inl ⟨p - ph + n, by omega, by omega, by unfold rnd; rw [if_neg (by omega)]; omega, hb, fun j j0 j1 => ?_⟩
  unfold rnd
  split
  · exact hq _ (by omega) (by omega)
  · exact hr _ (by omega) (by omega)
theorem firstIs_no {n c ph : Int} (p0 : -1 ≤ ph) (p1 : ph < n) (hq : ∀ q, 0 ≤ q → q < n → bitI c q = false) : FirstIs n c ph (-1) := by
  refine .inr ⟨rfl, fun j j0 j1 => ?_⟩
  unfold rnd
  split
  · exact hq _ (by omega) (by omega)
  · exact hq _ (by omega) (by omega)

theorem refFirst14_e {s : PSSite} {e c ph : Int} (hok : e = 0 → EyesOK s) (h : ref05_Check_t s = some e) (hc : U32ok c) :
    ∃ p, ref14_First_t (s, (c, ph)) = some (if e ≠ 0 then (0, e) else if askC s c ph ≠ 0 then (0, askC s c ph) else (p, 0)) ∧ (e = 0 → askC s c ph = 0 → FirstIs (llen s.2.2.2.2.1) c ph p) := by
  unfold ref14_First_t
  rw [elimO_eq _ _ h]
  by_cases h0 : e = 0
  · subst h0
    have hok := hok rfl
    have hp1 := hok.p1
    have hp2 := hok.p2
    rw [cnd_neg _ _ (by rfl), letK_app, refMay14 hc hp2]
    simp only [ne_eq, not_true, if_false, true_implies]
    unfold askC
    by_cases h1 : shrop .u32 c (llen s.2.2.2.2.1) = 0
    · rw [cnd_neg _ _ (by simpa using h1), if_neg (by simpa using h1)]
      by_cases h2 : ph < -1 ∨ llen s.2.2.2.2.1 ≤ ph
      · rw [cnd_pos _ _ (by simpa using h2), if_pos h2]
        exact ⟨0, rfl, fun h => (by cases h)⟩
      · rw [cnd_neg _ _ (by simpa using h2), if_neg h2]
        simp only [not_true, if_false, true_implies]
        generalize llen s.2.2.2.2.1 = n at *
        rw [wr_i64 (ph + 1) (by omega) (by omega)]
        refine iter_up (fun p : Int => p) n (fun p => ph < p ∧ ∀ q, ph < q → q < p → bitI c q = false) (fun a : Option (Int × Int) => ∃ p, a = some (p, 0) ∧ FirstIs n c ph p) (by omega) (by omega) (by omega) ⟨by omega, fun q q0 q1 => by omega⟩ (fun p hI p0 p1 => ?_) (fun p hI hp => ?_)
        · have p0 : 0 ≤ p := p0
          have p1 : p < n := p1
          rw [cnd_pos _ _ (decide_eq_true p1), letK_app, refHas_eq hc]
          cases hb : bitI c p with
          | true =>
            rw [cnd_pos _ _ rfl]
            exact ⟨p, rfl, firstIs_hi hI.1 p1 (by omega) hb hI.2⟩
          | false =>
            rw [cnd_neg _ _ rfl, wr_i64 (p + 1) (by omega) (by omega)]
            refine ⟨rfl, by omega, fun q q0 q1 => ?_⟩
            by_cases e : q = p
            · rw [e]; exact hb
            · exact hI.2 q q0 (by omega)
        · have hp : p = n := hp
          subst hp
          rw [cnd_neg _ _ (show decide (p < p) = false by simp)]
          show ∃ q, iter _ _ _ _ = some (q, 0) ∧ FirstIs p c ph q
          refine iter_up (fun k : Int => k) (ph + 1) (fun k => ∀ q, 0 ≤ q → q < k → bitI c q = false) (fun a : Option (Int × Int) => ∃ q, a = some (q, 0) ∧ FirstIs p c ph q) (by omega) (by simp) (by omega) (fun q q0 q1 => by omega) (fun k hJ k0 k1 => ?_) (fun k hJ hk => ?_)
          · have k0 : 0 ≤ k := k0
            have k1 : k < ph + 1 := k1
            rw [cnd_pos _ _ (show decide (k ≤ ph) = true by simp; omega), letK_app, refHas_eq hc]
            cases hb : bitI c k with
            | true =>
              rw [cnd_pos _ _ rfl]
              exact ⟨k, rfl, firstIs_lo k0 (by omega) (by omega) hb hI.2 hJ⟩
            | false =>
              rw [cnd_neg _ _ rfl, wr_i64 (k + 1) (by omega) (by omega)]
              refine ⟨rfl, fun q q0 q1 => ?_⟩
              by_cases e : q = k
              · rw [e]; exact hb
              · exact hJ q q0 (by omega)
          · have hk : k = ph + 1 := hk
            rw [cnd_neg _ _ (show decide (k ≤ ph) = false by simp; omega)]
            refine ⟨-1, rfl, firstIs_no (by omega) (by omega) fun q q0 q1 => ?_⟩
            by_cases e : ph < q
            · exact hI.2 q e q1
            · exact hJ q q0 (by omega)
    · rw [cnd_pos _ _ (by simpa using h1), if_pos h1]
      exact ⟨0, rfl, fun h => (by cases h)⟩
  · rw [cnd_pos _ _ (by simp [h0])]
    exact ⟨0, by rw [if_pos h0], fun h => absurd h h0⟩

theorem callTells_law (x : PSSite × Int × List PSLooked × Int) (hf : FitsAll [SSite, U32, SLookeds, I64] x) : law14_CallTells_t x = some true := by
  obtain ⟨s, c, l, ph⟩ := x
  have hs : SFits s := sfits hf.1
  have hc : U32ok c := hf.2.1
  unfold law14_CallTells_t
  obtain ⟨g, hg⟩ := great_s s hs
  rw [elimO_eq _ _ hg, cnd_if]
  split
  · rfl
  rename_i h1
  have hl : llen l ≤ 60 := by simp at h1; omega
  obtain ⟨e, h2, h3⟩ := check_s hs
  have h4 : ref05_Check_t s = some e := by rw [refCheck_eq hs]; exact h2
  have hok : e = 0 → EyesOK s := fun h => eyesOK (check_ok h3 h)
  rw [cnd_pos _ _ (show (true && roomOK (0 + llen l) 40) = true by rw [Bool.true_and]; exact room_le (by omega))]
  simp only [nil_app]
  obtain ⟨a, a1, a2⟩ := real_e hok h2 (show llen l ≤ 1000 by omega)
  obtain ⟨b, b1, b2⟩ := refReal14_e hok h4 (show llen l ≤ 1000 by omega)
  obtain ⟨n, n1, n2⟩ := callNext_e (g := ph) hok h2 (show llen l ≤ 1000 by omega) hc
  obtain ⟨m, m1, m2⟩ := refNext14_e (g := ph) hok h4 (show llen l ≤ 1000 by omega) hc
  obtain ⟨p, p1, p2⟩ := callFirst_e (ph := ph) hok h2 hc
  obtain ⟨q, q1, q2⟩ := refFirst14_e (ph := ph) hok h4 hc
  have e1 : (if askE e s l ≠ 0 then (0, askE e s l) else (a, 0)) = (if askE e s l ≠ 0 then (0, askE e s l) else (b, 0)) := by
    split
    · rfl
    · rename_i h
      have h := Decidable.not_not.1 h
      rw [bit_ext (a2 h).1 (b2 h).1 fun j _ _ => Bool.eq_iff_iff.2 (((a2 h).2 j).trans ((b2 h).2 j).symm)]
  have e2 : (if askE e s l ≠ 0 then (0, askE e s l) else if askC s c ph ≠ 0 then (0, askC s c ph) else (n, 0)) = (if askE e s l ≠ 0 then (0, askE e s l) else if askC s c ph ≠ 0 then (0, askC s c ph) else (m, 0)) := by
    split
    · rfl
    · rename_i h
      have h := Decidable.not_not.1 h
      split
      · rfl
      · rename_i h'
        have h' := Decidable.not_not.1 h'
        rw [bit_ext (n2 h).1 (m2 h h').1 fun j _ _ => Bool.eq_iff_iff.2 (((n2 h).2 j).trans ((m2 h h').2 j).symm)]
  have e3 : (if e ≠ 0 then (0, e) else if askC s c ph ≠ 0 then (0, askC s c ph) else (p, 0)) = (if e ≠ 0 then (0, e) else if askC s c ph ≠ 0 then (0, askC s c ph) else (q, 0)) := by
    split
    · rfl
    · rename_i h
      have h := Decidable.not_not.1 h
      split
      · rfl
      · rename_i h'
        have h' := Decidable.not_not.1 h'
        rw [firstIs_unique (p2 h h') (q2 h h')]
  obtain ⟨z, z1, z2⟩ := same13 (l := l) (m := l) (by omega)
  rw [elimO_eq _ _ a1, elimO_eq _ _ b1, elimO_eq _ _ n1, elimO_eq _ _ m1, elimO_eq _ _ p1, elimO_eq _ _ q1, e1, e2, e3, cnd_pos _ _ (by simp), elimO_eq _ _ z1, z2.2 rfl]

end Go.Proofs.YtiacnaijablgcaaDoor
