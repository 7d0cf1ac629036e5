/- Part of a proof: plain readings of Go functions, their contracts, or plain facts of them. -/
import Derived.Test.YtnkhijnppfnomaaDoorLadB
namespace Go.Proofs.YtnkhijnppfnomaaDoor
open Go.Den

/-! # Where facts stay the same -/
def runN (s : PSSite) (f : PSFacts) (r : PSRung) : Nat → PSRung
  | 0 => r
  | n + 1 => ladder_step (s, (runN s f r n, f))

theorem runN_step (s : PSSite) (f : PSFacts) (r : PSRung) : ∀ n, runN s f (ladder_step (s, (r, f))) n = runN s f r (n + 1)
  | 0 => rfl
  | n + 1 => by
    show ladder_step (s, (runN s f (ladder_step (s, (r, f))) n, f)) = ladder_step (s, (runN s f r (n + 1), f))
    rw [runN_step s f r n]

theorem steps_const (s : PSSite) (f : PSFacts) : ∀ (l : List PSFacts) (r : PSRung) (j : Nat), (∀ a ∈ l, a = f) → j < l.length → (stepsOf s r l)[j]? = some (runN s f r (j + 1))
  | [], _, _, _, h => absurd h (Nat.not_lt_zero _)
  | a :: l, r, 0, ha, _ => by
    rw [stepsOf, ha a (by simp)]; rfl
  | a :: l, r, j + 1, ha, h => by
    rw [stepsOf, ha a (by simp), List.getElem?_cons_succ, steps_const s f l _ j (fun b hb => ha b (by simp [hb])) (by simpa using h), runN_step]

/-- how far a rung is from what it may be -/
def far (heal m : Int) (r : PSRung) : Int := if r.1 = m then 0 else if m < r.1 then 1 else (if m - r.1 = 1 then 0 else if m - r.1 = 2 then heal else heal + heal) + max 1 (heal - r.2.1)

theorem may_open {r : PSRung} (f : PSFacts) (h : r.2.2 = false) : ladder_may (r, f) = ladder_may ((0, (0, false)), f) := by
  unfold ladder_may
  rw [h]

theorem far_falls {s : PSSite} {r : PSRung} {f : PSFacts} {heal m : Int} (hh : s.2.2.2.2.2.2.2.2.1 = heal) (h1 : 1 ≤ heal) (hh2 : heal ≤ 60) (hr : RungOK r) (lat : r.2.2 = false) (hf : f.2.2.2 = true) (hm : ladder_may ((0, (0, false)), f) = m) :
    RungOK (ladder_step (s, (r, f))) ∧ (ladder_step (s, (r, f))).2.2 = false ∧ (far heal m (ladder_step (s, (r, f))) = 0 ∨ far heal m (ladder_step (s, (r, f))) + 1 ≤ far heal m r) := by
  have hst := step_eq s r f hr
  have hml := may_le (0, (0, false)) f
  rw [hm] at hml
  rw [may_open f lat, hm, hh, if_neg (by simp [lat, hf])] at hst
  refine ⟨step_ok f hr (by omega), ?_⟩
  have hmo := hr.mode
  have hwe := hr.well
  generalize ladder_step (s, (r, f)) = y at hst ⊢
  by_cases c1 : m ≤ r.1
  · rw [if_pos c1] at hst
    subst hst
    exact ⟨rfl, .inl (by unfold far; rw [if_pos rfl])⟩
  · rw [if_neg c1] at hst
    by_cases c2 : heal ≤ r.2.1 + 1
    · rw [if_pos c2] at hst
      subst hst
      refine ⟨rfl, ?_⟩
      unfold far
      simp only
      by_cases c3 : r.1 + 1 = m
      · exact .inl (by rw [if_pos c3])
      · refine .inr ?_
        repeat' split
        all_goals omega
    · rw [if_neg c2] at hst
      subst hst
      refine ⟨rfl, .inr ?_⟩
      unfold far
      simp only
      repeat' split
      all_goals omega

theorem far_first {r : PSRung} {heal m : Int} (h1 : 1 ≤ heal) (hr : RungOK r) : far heal m r ≤ 3 * heal ∧ 0 ≤ far heal m r ∧ (far heal m r = 0 → m ≤ 3 → 0 ≤ m → r.1 = m) := by
  have hmo := hr.mode
  have hwe := hr.well
  unfold far
  split
  · exact ⟨by omega, by omega, fun _ _ _ => by assumption⟩
  · split
    · exact ⟨by omega, by omega, fun h => by omega⟩
    · split
      · exact ⟨by omega, by omega, fun h => by omega⟩
      · split
        · exact ⟨by omega, by omega, fun h => by omega⟩
        · exact ⟨by omega, by omega, fun h => by omega⟩

theorem reaches {s : PSSite} {r : PSRung} {f : PSFacts} {heal m : Int} (hh : s.2.2.2.2.2.2.2.2.1 = heal) (h1 : 1 ≤ heal) (h2 : heal ≤ 60) (hr : RungOK r) (lat : r.2.2 = false) (hm : ladder_may ((0, (0, false)), f) = m) (j : Nat) (hj : 3 * heal ≤ (j : Int)) : (runN s f r j).1 = m := by
  have hml := may_le (0, (0, false)) f
  rw [hm] at hml
  cases hf : f.2.2.2 with
  | false =>
    have hm0 : m = 0 := by rw [← hm]; unfold ladder_may; rw [cnd_if, if_pos (by simp [hf])]
    have key : ∀ n, RungOK (runN s f r n) ∧ (1 ≤ n → (runN s f r n).1 = 0) := fun n => by
      induction n with
      | zero => exact ⟨hr, fun h => by omega⟩
      | succ n ih =>
        have hst := step_eq s (runN s f r n) f ih.1
        rw [if_pos (.inr hf)] at hst
        exact ⟨step_ok f ih.1 (by omega), fun _ => by show (ladder_step (s, (runN s f r n, f))).1 = 0; rw [hst]⟩
    rw [hm0]; exact (key j).2 (by omega)
  | true =>
    have key : ∀ n : Nat, RungOK (runN s f r n) ∧ (runN s f r n).2.2 = false ∧ (far heal m (runN s f r n) = 0 ∨ far heal m (runN s f r n) + n ≤ 3 * heal) := fun n => by
      induction n with
      | zero => exact ⟨hr, lat, .inr (by have := (far_first (m := m) h1 hr).1; show far heal m r + ((0 : Nat) : Int) ≤ 3 * heal; omega)⟩
      | succ n ih =>
        obtain ⟨a, b, c⟩ := far_falls hh h1 h2 ih.1 ih.2.1 hf hm
        refine ⟨a, b, ?_⟩
        show far heal m (ladder_step (s, (runN s f r n, f))) = 0 ∨ far heal m (ladder_step (s, (runN s f r n, f))) + ((n + 1 : Nat) : Int) ≤ 3 * heal
        have p := (far_first (m := m) h1 a).2.1
        rcases c with c | c
        · exact .inl c
        · rcases ih.2.2 with d | d
          · exact .inl (by omega)
          · exact .inr (by omega)
    obtain ⟨a, _, c⟩ := key j
    have p := far_first (m := m) h1 a
    exact p.2.2 (by omega) hml.2 hml.1

theorem ladderReaches_law (x : PSSite × PSRung × PSFacts) (hf : FitsAll [SSite, SRung, SFacts] x) : law22_LadderReaches_t x = some true := by
  obtain ⟨s, r, f⟩ := x
  have hs : SFits s := sfits hf.1
  have hr0 : (0 ≤ r.1 ∧ r.1 ≤ 255) ∧ _ := fits_rung hf.2.1
  unfold law22_LadderReaches_t
  obtain ⟨g, hg⟩ := great_s s hs
  rw [elimO_eq _ _ alive22, cnd_neg _ _ (by rfl), elimO_eq _ _ hg]
  rw [cnd_if]
  split
  · rfl
  obtain ⟨e, h2, h3⟩ := check_s hs
  rw [elimO_eq _ _ h2]
  rw [cnd_if]
  split
  · rfl
  rename_i h4
  simp only [Bool.or_eq_true, Bool.not_eq_true', beq_eq_false_iff_ne, ne_eq, decide_eq_true_eq, not_or, Decidable.not_not, Bool.not_eq_true] at h4
  obtain ⟨⟨rfl, hh60⟩, lat⟩ := h4
  have hok := check_ok h3 rfl
  have hheal := hok.timed.heal
  generalize hh : s.2.2.2.2.2.2.2.2.1 = heal at hheal hh60 ⊢
  have e1 : wr .i64 (wr .i64 (3 * heal) + 2) = 3 * heal + 2 := by rw [wr_i64 (3 * heal) (by omega) (by omega), wr_i64 _ (by omega) (by omega)]
  have e2 : wr .i64 (wr .i64 (3 * heal) - 1) = 3 * heal - 1 := by rw [wr_i64 (3 * heal) (by omega) (by omega), wr_i64 _ (by omega) (by omega)]
  rw [e1, e2]
  generalize hN : 3 * heal + 2 = N
  have mk : ((decide (0 ≤ N)) && ((decide (N ≤ N)) && (makeOK N 4))) = true := by rw [make_le (by omega)]; simp; omega
  rw [cnd_pos _ _ mk]
  refine iter_ind (fun z => 0 ≤ z.1 ∧ z.1 ≤ N ∧ llen z.2 = N ∧ ∀ j, 0 ≤ j → j < z.1 → idx z.2 j = some f) (fun z => (N - z.1).toNat) (fun a => a = some true) ?_ lots (0, lrep N (false, (false, (false, false)))) ⟨by simp, by simp only; omega, llen_lrep (by omega) _, fun j j0 j1 => absurd j1 (by simp only; omega)⟩ (by rw [lots_eq]; simp only; omega)
  rintro ⟨i, l⟩ ⟨i0, i1, hl, hj⟩
  simp only at i0 i1 hl hj
  by_cases hi : i < N
  · obtain ⟨a, ha, _⟩ := idx_get (l := l) i0 (by omega)
    simp only [hl, hi, decide_true, cnd_true, ha, elimO_some]
    rw [wr_i64 (i + 1) (by omega) (by omega)]
    refine ⟨⟨by simp only; omega, by simp only; omega, by rw [llen_lset]; exact hl, fun j j0 j1 => ?_⟩, (by show (N - (i + 1)).toNat < (N - i).toNat; omega)⟩
    simp only at j1 ⊢
    rw [idx_lset i0 (by omega)]
    split
    · rfl
    · exact hj j j0 (by omega)
  · simp only [hl, hi, decide_false, cnd_false]
    show _ = some true
    have hl1 : ∀ a ∈ l, a = f := fun a ha => by
      obtain ⟨j, hja⟩ := mem_idx ha
      obtain ⟨j0, j1, _⟩ := idx_some_iff hja
      have := hj j j0 (by omega)
      rw [hja] at this; exact Option.some.inj this
    rcases run_s (l := l) (r := r) hs hr0.1.1 with ⟨_, hro, _, hrun⟩ | ⟨e, he, hrun, _⟩
    · have hlen : llen (stepsOf s r l) = N := by unfold llen; rw [steps_len]; exact hl
      simp only [hrun, elimO_some, beq_self_eq_true, Bool.not_true, cnd_false, letK, hlen, Bool.and_self]
      refine iter_ind (fun k => 3 * heal - 1 ≤ k ∧ k ≤ N) (fun k => (N - k).toNat) (fun a => a = some true) ?_ lots (3 * heal - 1) ⟨by omega, by omega⟩ (by rw [lots_eq]; omega)
      rintro k ⟨k0, k1⟩
      by_cases hk : k < N
      · have hx : idx (stepsOf s r l) k = some (runN s f r (k.toNat + 1)) := by
          rw [idx_nat (by omega)]
          exact steps_const s f l r k.toNat hl1 (by unfold llen at hl; omega)
        have hm : (runN s f r (k.toNat + 1)).1 = ladder_May ((0, (0, false)), f) := reaches hh hheal.1 (by omega) hro lat rfl _ (by omega)
        simp only [hk, decide_true, cnd_true, hx, elimO_some, hm, beq_self_eq_true, Bool.not_true, cnd_false]
        rw [wr_i64 (k + 1) (by omega) (by omega)]
        exact ⟨⟨by omega, by omega⟩, (by show (N - (k + 1)).toNat < (N - k).toNat; omega)⟩
      · simp only [hk, decide_false, cnd_false]
        rfl
    · simp only [hrun, elimO_some]
      have : (!(e == 0)) = true := by simp [he]
      simp only [this, cnd_true]
      rfl

end Go.Proofs.YtnkhijnppfnomaaDoor
