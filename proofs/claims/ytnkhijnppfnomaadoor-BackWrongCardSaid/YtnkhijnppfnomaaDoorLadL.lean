/- Part of a proof: plain readings of Go functions, their contracts, or plain facts of them. -/
import Derived.Test.YtnkhijnppfnomaaDoorLadS
namespace Go.Proofs.YtnkhijnppfnomaaDoor
open Go.Den

theorem great_s (x : PSSite) (hx : SFits x) : ∃ b, ref05_Great_t x = some b := by
  unfold ref05_Great_t
  rw [cnd_if]
  split
  · exact ⟨_, rfl⟩
  · refine iter_allQ (l := x.2.2.2.1) (fun a : Option Bool => ∃ b, a = some b) (fun _ r => ¬ 40 < llen r) (some true) _ hx.b (fun i r h0 hi hr => ?_) (fun i hi => by simp only [hi, decide_false, cnd_false]; rfl) (fun _ => ?_) (fun _ => ⟨_, rfl⟩)
    · simp only [hi, decide_true, cnd_true, hr, elimO_some]
      by_cases h : 40 < llen r
      · exact .inr ⟨fun hh => hh h, by simp only [h, decide_true, cnd_true]⟩
      · exact .inl ⟨h, by simp only [h, decide_false, cnd_false]⟩
    · refine iter_allQ (l := x.2.2.2.2.2.2.2.2.2.2.2) (fun a : Option Bool => ∃ b, a = some b) (fun _ p => ¬ 40 < llen p.2.2) (some true) (some false) hx.q (fun i r h0 hi hr => ?_) (fun i hi => by simp only [hi, decide_false, cnd_false]) (fun _ => ⟨_, rfl⟩) (fun _ => ⟨_, rfl⟩)
      simp only [hi, decide_true, cnd_true, hr, elimO_some]
      by_cases h : 40 < llen r.2.2
      · exact .inr ⟨fun hh => hh h, by simp only [h, decide_true, cnd_true]⟩
      · exact .inl ⟨h, by simp only [h, decide_false, cnd_false]⟩

theorem alive22 : law22_alive_t () = some true := by kernel_rfl

/-! ## rungs -/
structure RungOK (r : PSRung) : Prop where
  mode : 0 ≤ r.1 ∧ r.1 ≤ 3
  well : 0 ≤ r.2.1 ∧ r.2.1 ≤ 1048576
  latched : r.2.2 = true → r.1 = 0 ∧ r.2.1 = 0

def stepsOf (s : PSSite) : PSRung → List PSFacts → List PSRung
  | _, [] => []
  | r, f :: l => ladder_step (s, (r, f)) :: stepsOf s (ladder_step (s, (r, f))) l

theorem steps_len (s : PSSite) : ∀ (l : List PSFacts) (r : PSRung), (stepsOf s r l).length = l.length
  | [], _ => rfl
  | f :: l, r => by simp [stepsOf, steps_len s l]

theorem step_eq (s : PSSite) (r : PSRung) (f : PSFacts) (hr : RungOK r) : ladder_step (s, (r, f)) =
    (if r.2.2 = true ∨ f.2.2.2 = false then (0, (0, true)) else
      if (ladder_may (r, f)) ≤ r.1 then (ladder_may (r, f), (0, false)) else
      if s.2.2.2.2.2.2.2.2.1 ≤ r.2.1 + 1 then (r.1 + 1, (0, false)) else (r.1, (r.2.1 + 1, false))) := by
  obtain ⟨mo, we, la⟩ := r
  obtain ⟨fr, pl, ey, li⟩ := f
  have h1 := hr.mode
  have h2 := hr.well
  have h3 := hr.latched
  simp only at h1 h2 h3
  unfold ladder_step
  simp only [letK]
  rw [wr_i64 (we + 1) (by omega) (by omega), wr_u8 (mo + 1) (by omega) (by omega)]
  cases la with
  | true =>
    have := h3 rfl
    simp [ladder_may, cnd, this.1]
  | false =>
    cases li with
    | false => simp [ladder_may, cnd, h1.1]
    | true =>
      simp only [Bool.or_false, Bool.not_true, cnd_if, decide_eq_true_eq]
      simp

theorem may_le (r : PSRung) (f : PSFacts) : 0 ≤ ladder_may (r, f) ∧ ladder_may (r, f) ≤ 3 := by
  unfold ladder_may
  simp only [cnd_if]
  repeat' split
  all_goals omega

theorem step_ok {s : PSSite} {r : PSRung} (f : PSFacts) (hr : RungOK r) (hh : s.2.2.2.2.2.2.2.2.1 ≤ 1048576) : RungOK (ladder_step (s, (r, f))) := by
  rw [step_eq s r f hr]
  have h1 := hr.mode
  have h2 := hr.well
  have hm := may_le r f
  split
  · exact ⟨by simp, by simp, fun _ => ⟨rfl, rfl⟩⟩
  · split
    · exact ⟨by simp only; omega, by simp, fun h => by simp at h⟩
    · split
      · exact ⟨by simp only; omega, by simp, fun h => by simp at h⟩
      · exact ⟨by simp only; omega, by simp only; omega, fun h => by simp at h⟩

theorem steps_get (s : PSSite) : ∀ (l : List PSFacts) (r : PSRung) (i : Nat) (f : PSFacts) (was : PSRung), l[i]? = some f → stepsOf s was (l.drop i) = (stepsOf s r l).drop i → (stepsOf s r l)[i]? = some (ladder_step (s, (was, f))) ∧ stepsOf s (ladder_step (s, (was, f))) (l.drop (i + 1)) = (stepsOf s r l).drop (i + 1) := fun l r i f was hf hd => by
  have hlt : i < l.length := (List.getElem?_eq_some_iff.1 hf).1
  have he : l[i] = f := (List.getElem?_eq_some_iff.1 hf).2
  have e : l.drop i = f :: l.drop (i + 1) := by rw [List.drop_eq_getElem_cons hlt, he]
  rw [e, stepsOf] at hd
  constructor
  · have := congrArg (fun z => z[0]?) hd
    simp only [List.getElem?_cons_zero, List.getElem?_drop, Nat.add_zero] at this
    exact this.symm
  · have := congrArg (List.drop 1) hd
    simp only [List.drop_succ_cons, List.drop_zero, List.drop_drop] at this
    exact this

theorem asked_s {s : PSSite} {r : PSRung} (hs : SFits s) (h1 : 0 ≤ r.1) : ∃ e, ladder_asked_t (s, r) = some e ∧ ((e = 0 ∧ SiteOK s ∧ RungOK r) ∨ (e = 8 ∧ SiteOK s ∧ ¬ RungOK r) ∨ (e = 50 ∧ ¬ SiteOK s)) := by
  obtain ⟨e, h2, h3⟩ := check_s hs
  unfold ladder_asked_t
  rw [h2]
  simp only [elimO_some]
  rcases h3 with ⟨rfl, h3⟩ | ⟨rfl, h3⟩
  · simp only [beq_self_eq_true, Bool.not_true, cnd_false]
    rw [cnd_if]
    split
    · rename_i h
      refine ⟨8, rfl, .inr (.inl ⟨rfl, h3, fun hr => ?_⟩)⟩
      have a := hr.mode
      have b := hr.well
      have c := hr.latched
      simp only [Bool.or_eq_true, Bool.and_eq_true, decide_eq_true_eq, Bool.not_eq_true', beq_eq_false_iff_ne, ne_eq] at h
      rcases h with ((h | h) | h) | ⟨h, h'⟩
      · omega
      · omega
      · omega
      · have := c h; omega
    · rename_i h
      simp only [Bool.or_eq_true, Bool.and_eq_true, decide_eq_true_eq, Bool.not_eq_true', beq_eq_false_iff_ne, ne_eq, not_or, not_and] at h
      exact ⟨0, rfl, .inl ⟨rfl, h3, ⟨h1, by omega⟩, by omega, fun hl => ⟨Decidable.not_not.1 (h.2 hl).1, Decidable.not_not.1 (h.2 hl).2⟩⟩⟩
  · exact ⟨50, rfl, .inr (.inr ⟨rfl, h3⟩)⟩

theorem two46 : (2 : Int) ^ 46 = 70368744177664 := by decide
theorem two47 : (2 : Int) ^ 47 = 140737488355328 := by decide

theorem make24 {n : Int} (h0 : 0 ≤ n) (h : n ≤ 4096) : ((decide (0 ≤ 0)) && ((decide (0 ≤ n)) && (makeOK n 24))) = true := by
  simp only [makeOK, Bool.and_eq_true, decide_eq_true_eq, two47]
  exact ⟨by omega, h0, by omega⟩

theorem room24 {n : Int} (h : n ≤ 5000) : roomOK n 24 = true := by
  simp only [roomOK, decide_eq_true_eq, two46]
  omega

theorem letK_app {α A : Type} (x : α) (f : α → A) : letK x f = f x := id rfl
theorem cnd_true' {α : Type} (x y : α) : cnd true x y = x := id rfl

theorem run_s {s : PSSite} {r : PSRung} {l : List PSFacts} (hs : SFits s) (h1 : 0 ≤ r.1) :
    (SiteOK s ∧ RungOK r ∧ l.length ≤ 4096 ∧ ladder_Run_t (s, (r, l)) = some (stepsOf s r l, 0)) ∨ (∃ e, e ≠ 0 ∧ ladder_Run_t (s, (r, l)) = some ([], e) ∧ (SiteOK s → RungOK r → ¬ l.length ≤ 4096)) := by
  obtain ⟨e, h2, h3⟩ := asked_s hs h1
  unfold ladder_Run_t
  simp only [h2, elimO_some]
  rcases h3 with ⟨rfl, h3, h4⟩ | ⟨rfl, h3, h4⟩ | ⟨rfl, h3⟩
  · simp only [beq_self_eq_true, Bool.not_true, cnd_false]
    by_cases hl : 4096 < llen l
    · refine .inr ⟨4, by decide, by simp only [hl, decide_true, cnd_true], fun _ _ hh => ?_⟩
      unfold llen at hl; omega
    · refine .inl ⟨h3, h4, by unfold llen at hl; omega, ?_⟩
      simp only [hl, decide_false, cnd_false, make24 (llen_nonneg l) (by omega), cnd_true]
      refine iter_ind (fun z => 0 ≤ z.2.1 ∧ z.2.1 ≤ llen l ∧ llen z.1 = z.2.1 ∧ z.1 ++ stepsOf s z.2.2 (l.drop z.2.1.toNat) = stepsOf s r l) (fun z => (llen l - z.2.1).toNat) (fun a : Option (List PSRung × Int) => a = some (stepsOf s r l, 0)) ?_ lots (lrep 0 (0, (0, false)), (0, r)) ⟨by simp, llen_nonneg l, rfl, rfl⟩ (by rw [lots_eq]; simp only; omega)
      rintro ⟨out, i, w⟩ ⟨i0, i1, i2, i3⟩
      simp only at i0 i1 i2 i3
      by_cases hi : i < llen l
      · obtain ⟨f, hf, _⟩ := idx_get i0 hi
        have hf' : l[i.toNat]? = some f := by
          have := hf
          unfold idx at this
          rwa [if_pos i0] at this
        have hlt : i.toNat < l.length := (List.getElem?_eq_some_iff.1 hf').1
        have hfe : l[i.toNat] = f := (List.getElem?_eq_some_iff.1 hf').2
        have hi' : ∀ i, i < llen l → decide (i < llen l) = true := fun i h => decide_eq_true h
        have hroom : roomOK (llen out + llen (ladder_step (s, (w, f)) :: ([] : List PSRung))) 24 = true := room24 (by unfold llen at i2 hi hl ⊢; simp only [List.length_cons, List.length_nil]; omega)
        rw [hi' i hi, cnd_true', hf, elimO_some, letK_app, hroom, Bool.true_and, cnd_true']
        rw [wr_i64 (i + 1) (by omega) (by omega)]
        refine ⟨⟨by simp only; omega, by simp only; omega, ?_, ?_⟩, (by show (llen l - (i + 1)).toNat < (llen l - i).toNat; omega)⟩
        · simp only
          unfold llen at i2 ⊢
          rw [List.length_append, List.length_cons, List.length_nil]; omega
        · simp only
          rw [← i3, List.drop_eq_getElem_cons hlt, hfe, stepsOf, show (i + 1).toNat = i.toNat + 1 by omega]
          simp
      · simp only [hi, decide_false, cnd_false]
        have : l.drop i.toNat = [] := List.drop_eq_nil_of_le (by unfold llen at hi; omega)
        rw [this, stepsOf, List.append_nil] at i3
        show some (out, (0 : Int)) = _
        rw [i3]
  · exact .inr ⟨8, by decide, rfl, fun _ hr => absurd hr h4⟩
  · exact .inr ⟨50, by decide, rfl, fun hh => absurd hh h3⟩


/-! ## the laws -/
theorem fits_rung {r : PSRung} (h : Fits SRung r) : (0 ≤ r.1 ∧ r.1 ≤ 255) ∧ (-9223372036854775808 ≤ r.2.1 ∧ r.2.1 ≤ 9223372036854775807) := ⟨h.1, h.2.1⟩

theorem idx_of_nat {α : Type} {l : List α} {i : Int} (h : 0 ≤ i) : idx l i = l[i.toNat]? := by unfold idx; rw [if_pos h]

/-- what a tick does to a rung -/
structure Goes (was : PSRung) (f : PSFacts) (y : PSRung) (heal : Int) : Prop where
  may : y.1 ≤ ladder_may (was, f)
  up : y.1 ≤ was.1 + 1
  keep : was.2.2 = true → y.2.2 = true
  dark : f.2.2.2 = false → y.2.2 = true
  flat : y.2.2 = true → y.1 = 0
  master : y.1 = 3 → f.1 = true ∧ f.2.1 = true ∧ f.2.2.1 = true ∧ f.2.2.2 = true
  stored : y.1 = 2 → f.2.1 = true ∧ f.2.2.2 = true
  new : y.2.2 = true → was.2.2 = false → f.2.2.2 = false

theorem step_goes (s : PSSite) (was : PSRung) (f : PSFacts) (hw : RungOK was) : Goes was f (ladder_step (s, (was, f))) s.2.2.2.2.2.2.2.2.1 := by
  have hst := step_eq s was f hw
  have h1 := hw.mode
  obtain ⟨mo, we, la⟩ := was
  obtain ⟨fr, pl, ey, li⟩ := f
  have hla := hw.latched
  simp only at h1 hla hst
  generalize ladder_step (s, ((mo, we, la), (fr, pl, ey, li))) = y at hst ⊢
  cases la with
  | true =>
    have hz := hla rfl
    simp at hst
    subst hst
    constructor <;> simp [ladder_may, cnd]
    all_goals omega
  | false =>
    cases li with
    | false =>
      simp at hst
      subst hst
      constructor <;> simp [ladder_may, cnd]
      all_goals omega
    | true =>
      simp only [Bool.false_eq_true, Bool.true_eq_false, or_self, if_false] at hst
      have hm := may_le (mo, we, false) (fr, pl, ey, true)
      have h3 : ladder_may ((mo, we, false), (fr, pl, ey, true)) = 3 → fr = true ∧ pl = true ∧ ey = true := by
        unfold ladder_may
        cases fr <;> cases pl <;> cases ey <;> simp [cnd]
      have h2 : 2 ≤ ladder_may ((mo, we, false), (fr, pl, ey, true)) → pl = true := by
        unfold ladder_may
        cases fr <;> cases pl <;> cases ey <;> simp [cnd]
      generalize hmm : ladder_may ((mo, we, false), (fr, pl, ey, true)) = m at hst hm h3 h2
      have hy : y.2.2 = false ∧ y.1 ≤ m ∧ y.1 ≤ mo + 1 := by
        rw [hst]
        split
        · exact ⟨rfl, by simp only; omega, by simp only; omega⟩
        · split
          · exact ⟨rfl, by simp only; omega, by simp only; omega⟩
          · exact ⟨rfl, by simp only; omega, by simp only; omega⟩
      obtain ⟨y1, y2, y3⟩ := hy
      exact ⟨by rw [hmm]; exact y2, y3, fun h => (by simp at h), fun h => (by simp at h), fun h => (by rw [y1] at h; cases h), fun h => (by obtain ⟨a, b, c⟩ := h3 (by omega); exact ⟨a, b, c, rfl⟩), fun h => ⟨h2 (by omega), rfl⟩, fun h => (by rw [y1] at h; cases h)⟩

theorem ladderDown_law (x : PSSite × PSRung × List PSFacts) (hf : FitsAll [SSite, SRung, SFactss] x) : law22_LadderDown_t x = some true := by
  obtain ⟨s, r, l⟩ := x
  have hs : SFits s := sfits hf.1
  obtain ⟨hr, _⟩ := fits_rung hf.2.1
  unfold law22_LadderDown_t
  obtain ⟨g, hg⟩ := great_s s hs
  simp only [alive22, elimO_some, Bool.not_true, cnd_false, hg]
  rw [cnd_if]
  split
  · rfl
  rename_i h1
  have hl : llen l ≤ 300 := by simp at h1; omega
  obtain ⟨e, h2, h3⟩ := check_s hs
  simp only [h2, elimO_some]
  rw [cnd_if]
  split
  · rfl
  rename_i h4
  have he : e = 0 := by simpa using h4
  subst he
  have hok : SiteOK s := by
    rcases h3 with h3 | h3
    · exact h3.2
    · exact absurd h3.1 (by decide)
  have hheal := hok.timed.heal
  rcases run_s (l := l) hs hr.1 with ⟨_, hro, _, hrun⟩ | ⟨e, he, hrun, _⟩
  · simp only [hrun, elimO_some]
    have hlen : llen (stepsOf s r l) = llen l := by unfold llen; rw [steps_len]
    simp only [beq_self_eq_true, Bool.not_true, cnd_false, hlen]
    refine iter_ind (fun z => 0 ≤ z.1 ∧ z.1 ≤ llen l ∧ RungOK z.2 ∧ stepsOf s z.2 (l.drop z.1.toNat) = (stepsOf s r l).drop z.1.toNat) (fun z => (llen l - z.1).toNat) (fun a => a = some true) ?_ lots (0, r) ⟨by simp, llen_nonneg l, hro, rfl⟩ (by rw [lots_eq]; simp only; omega)
    rintro ⟨i, was⟩ ⟨i0, i1, hwas, hd⟩
    simp only at i0 i1 hwas hd
    by_cases hi : i < llen l
    · obtain ⟨f, hfi, _⟩ := idx_get i0 hi
      have hfi' : l[i.toNat]? = some f := by rw [← idx_of_nat i0]; exact hfi
      obtain ⟨q1, q2⟩ := steps_get s l r i.toNat f was hfi' hd
      have hx : idx (stepsOf s r l) i = some (ladder_step (s, (was, f))) := by rw [idx_of_nat i0]; exact q1
      have hso := step_ok (s := s) f hwas hheal.2
      have hmo := hwas.mode
      have hwe := hwas.well
      have hla := hwas.latched
      simp only [hi, decide_true, cnd_true, hfi, hx, elimO_some, letK]
      have next : Round (fun z => 0 ≤ z.1 ∧ z.1 ≤ llen l ∧ RungOK z.2 ∧ stepsOf s z.2 (l.drop z.1.toNat) = (stepsOf s r l).drop z.1.toNat) (fun z => (llen l - z.1).toNat) (fun a : Option Bool => a = some true) (llen l - i).toNat (.next ((wr .i64 (i + 1)), ladder_step (s, (was, f)))) := by
        rw [wr_i64 (i + 1) (by omega) (by omega)]
        refine ⟨⟨by simp only; omega, by simp only; omega, hso, ?_⟩, (by show (llen l - (i + 1)).toNat < (llen l - i).toNat; omega)⟩
        simp only
        rw [show (i + 1).toNat = i.toNat + 1 by omega]
        exact q2
      rw [wr_u8 (was.1 + 1) (by omega) (by omega)]
      have hgo := step_goes s was f hwas
      generalize ladder_step (s, (was, f)) = y at hgo next ⊢
      have c1 : ((decide (ladder_May (was, f) < y.1)) || (decide (was.1 + 1 < y.1)) || (was.2.2 && !y.2.2)) = false := by
        have a1 := hgo.may
        have a2 := hgo.up
        have a3 := hgo.keep
        have e : ladder_May (was, f) = ladder_may (was, f) := rfl
        rw [e]
        simp only [Bool.or_eq_false_iff, decide_eq_false_iff_not, Bool.and_eq_false_iff, Bool.not_eq_false']
        refine ⟨⟨by omega, by omega⟩, ?_⟩
        cases hb : was.2.2 with
        | false => exact .inl rfl
        | true => exact .inr (a3 hb)
      have c2 : ((!f.2.2.2 && !y.2.2) || (y.2.2 && !(y.1 == 0))) = false := by
        have a1 := hgo.dark
        have a2 := hgo.flat
        simp only [Bool.or_eq_false_iff, Bool.and_eq_false_iff, Bool.not_eq_false', beq_iff_eq]
        refine ⟨?_, ?_⟩
        · cases hb : f.2.2.2 with
          | true => exact .inl rfl
          | false => exact .inr (a1 hb)
        · cases hb : y.2.2 with
          | false => exact .inl rfl
          | true => exact .inr (a2 hb)
      have c3 : (y.2.2 && !was.2.2) = true → f.2.2.2 = false := fun h => by
        simp only [Bool.and_eq_true, Bool.not_eq_true'] at h
        exact hgo.new h.1 h.2
      simp only [c1, c2, cnd_false]
      have tail : cnd (y.2.2 && !was.2.2) (cnd f.2.2.2 (Step.done (some false)) (.next (wr .i64 (i + 1), y))) (.next (wr .i64 (i + 1), y)) = .next (wr .i64 (i + 1), y) := by
        cases hb : (y.2.2 && !was.2.2) with
        | false => rfl
        | true => rw [c3 hb]; rfl
      simp only [tail]
      by_cases h3 : y.1 = 3
      · obtain ⟨m1, m2, m3, m4⟩ := hgo.master h3
        have h2 : (y.1 == 2) = false := by rw [h3]; rfl
        simp only [beq_iff_eq.2 h3, h2, m1, m2, m3, m4, Bool.not_true, cnd_true, cnd_false]
        exact next
      · by_cases h2 : y.1 = 2
        · obtain ⟨m1, m2⟩ := hgo.stored h2
          simp only [beq_false_of_ne h3, beq_iff_eq.2 h2, m1, m2, Bool.not_true, cnd_true, cnd_false]
          exact next
        · simp only [beq_false_of_ne h3, beq_false_of_ne h2, cnd_false]
          exact next
    · simp only [hi, decide_false, cnd_false]
      rfl
  · simp only [hrun, elimO_some]
    have : (!(e == 0)) = true := by simp [he]
    simp only [this, cnd_true]
    rfl

end Go.Proofs.YtnkhijnppfnomaaDoor
