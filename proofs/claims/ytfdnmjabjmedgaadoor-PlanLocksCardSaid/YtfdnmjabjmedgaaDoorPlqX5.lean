/- Part of a proof: plain readings of Go functions, their contracts, or plain facts of them. -/
import Derived.Test.YtfdnmjabjmedgaaDoorPlqX4
namespace Go.Proofs.YtfdnmjabjmedgaaDoor
open Go.Den

/-! # Betweens and yellows below each phase's least -/
theorem short_e {s : PSSite} (hx : SFits s) (hS : SiteOK s) : ∃ b, law17_short_t s = some b ∧ (b = true → Short s) := by
  have h := sok hx hS
  have n1 := h.n1
  have n2 := h.n2
  have p1 := hS.shape.p1
  have p2 := hS.shape.p2
  unfold law17_short_t
  refine iter_up (fun k : Int => k) (llen s.2.2.2.2.1) (fun k => ∀ k' a, 0 ≤ k' → k' < k → 0 ≤ a → a < llen s.2.1 → (el s.2.1 a).2.2 < minP s k' ∧ ∀ b, 0 ≤ b → b < llen s.2.1 → betw s a b < minP s k') (fun r => ∃ b, r = some b ∧ (b = true → Short s)) (by omega) (by simp) (by omega) (fun k' a h0 h1 => by omega) (fun k hI k0 k1 => ?_) (fun k hI hk => ?_)
  · have k0 : 0 ≤ k := k0
    have k1 : k < llen s.2.2.2.2.1 := k1
    have hph := idx_el k0 k1
    have hmin : (el s.2.2.2.2.1 k).2.1 = minP s k := rfl
    try simp only
    rw [cnd_pos _ _ (decide_eq_true k1)]
    refine iter_up (fun a : Int => a) (llen s.2.1) (fun a => ∀ a', 0 ≤ a' → a' < a → (el s.2.1 a').2.2 < minP s k ∧ ∀ b, 0 ≤ b → b < llen s.2.1 → betw s a' b < minP s k) _ (by omega) (by simp) (by omega) (fun a' h0 h1 => by omega) (fun a hJ a0 a1 => ?_) (fun a hJ ha => ?_)
    · have a0 : 0 ≤ a := a0
      have a1 : a < llen s.2.1 := a1
      have hgr := idx_el a0 a1
      have hrow := idx_el (l := s.2.2.2.1) a0 (by rw [h.lb]; exact a1)
      have hrl := h.rows a _ hrow
      try simp only
      rw [cnd_pos _ _ (decide_eq_true a1), elimO_eq _ _ hgr, elimO_eq _ _ hph, hmin]
      by_cases c : minP s k ≤ (el s.2.1 a).2.2
      · rw [cnd_pos _ _ (decide_eq_true c)]
        exact ⟨false, rfl, fun hh => by cases hh⟩
      · rw [cnd_neg _ _ (decide_eq_false c)]
        refine iter_up (fun b : Int => b) (llen s.2.1) (fun b => ∀ b', 0 ≤ b' → b' < b → betw s a b' < minP s k) _ (by omega) (by simp) (by omega) (fun b' h0 h1 => by omega) (fun b hK b0 b1 => ?_) (fun b hK hb => ?_)
        · have b0 : 0 ≤ b := b0
          have b1 : b < llen s.2.1 := b1
          have hcell := idx_el (l := el s.2.2.2.1 a) b0 (by rw [hrl]; exact b1)
          have hbe : el (el s.2.2.2.1 a) b = betw s a b := rfl
          try simp only
          rw [cnd_pos _ _ (decide_eq_true b1), elimO_eq _ _ hrow, elimO_eq _ _ hcell, elimO_eq _ _ hph, hmin, hbe]
          by_cases d : minP s k ≤ betw s a b
          · rw [cnd_pos _ _ (decide_eq_true d)]
            exact ⟨false, rfl, fun hh => by cases hh⟩
          · rw [cnd_neg _ _ (decide_eq_false d), wr_i64 (b + 1) (by omega) (by omega)]
            refine ⟨rfl, fun b' h0 h1 => ?_⟩
            by_cases e : b' = b
            · subst e; omega
            · exact hK b' h0 (by omega)
        · have hb : b = llen s.2.1 := hb
          subst hb
          try simp only
          rw [cnd_neg _ _ (decide_eq_false (by omega)), wr_i64 (a + 1) (by omega) (by omega)]
          refine ⟨rfl, fun a' h0 h1 => ?_⟩
          by_cases e : a' = a
          · subst e; exact ⟨by omega, hK⟩
          · exact hJ a' h0 (by omega)
    · have ha : a = llen s.2.1 := ha
      subst ha
      try simp only
      rw [cnd_neg _ _ (decide_eq_false (by omega)), wr_i64 (k + 1) (by omega) (by omega)]
      refine ⟨rfl, fun k' a h0 h1 a0 a1 => ?_⟩
      by_cases e : k' = k
      · subst e; exact hJ a a0 a1
      · exact hI k' a h0 (by omega) a0 a1
  · have hk : k = llen s.2.2.2.2.1 := hk
    subst hk
    try simp only
    rw [cnd_neg _ _ (decide_eq_false (by omega))]
    exact ⟨true, rfl, fun _ => ⟨fun k a k0 k1 a0 a1 => (hI k a k0 k1 a0 a1).1, fun k a b k0 k1 a0 a1 b0 b1 => (hI k a k0 k1 a0 a1).2 b b0 b1⟩⟩

/-! # From tick to tick -/
theorem place_succ {s : PSSite} {p : PSPlan} (N : PNums s p) (t : Int) : placeV p (t + 1) = if placeV p t + 1 < p.1 then placeV p t + 1 else 0 := by
  obtain ⟨a, b⟩ := place_in N t
  have h := Int.emod_add_mul_ediv (t + p.1 - p.2.1) p.1
  have hq : placeV p t + p.1 * ((t + p.1 - p.2.1) / p.1) = t + p.1 - p.2.1 := h
  have c := N.cyc
  generalize (t + p.1 - p.2.1) / p.1 = q at hq
  split
  · rename_i c
    exact mod_of (q := q) (by omega) (by omega) c
  · rename_i c
    refine mod_of (q := q + 1) ?_ (by omega) (by omega)
    rw [Int.mul_add]; omega

def prevN (s : PSSite) (q : Int) : Int := if q = 0 then llen s.2.2.2.2.1 - 1 else q - 1
theorem prev_next {s : PSSite} {q : Int} (q0 : 0 ≤ q) (q1 : q < llen s.2.2.2.2.1) : prevN s (nextN s q) = q := by
  unfold prevN nextN
  by_cases c : q + 1 < llen s.2.2.2.2.1
  · rw [if_pos c, if_neg (by omega)]; omega
  · rw [if_neg c, if_pos rfl]; omega
theorem next_prev {s : PSSite} {q : Int} (q0 : 0 ≤ q) (q1 : q < llen s.2.2.2.2.1) : 0 ≤ prevN s q ∧ prevN s q < llen s.2.2.2.2.1 ∧ nextN s (prevN s q) = q := by
  unfold prevN nextN
  by_cases c : q = 0
  · rw [if_pos c, if_neg (by omega)]; omega
  · rw [if_neg c, if_pos (by omega)]; omega

def AtT (s : PSSite) (p : PSPlan) (t m : Int) (now : PSSafe) : Prop := ∀ k : Nat, k < nV s → IsPart p k (placeV p t) →
  (placeV p t = endV p k → AtB s now k (prevN s k) m) ∧ (endV p k < placeV p t → AtM s now k (nextN s k) (placeV p t - endV p k) (el p.2.2 (k : Int) - clrV s k) m)

theorem at_advance {s : PSSite} {p : PSPlan} (hx : SFits s) (hS : SiteOK s) (hsh : Short s) (N : PNums s p) {t m : Int} {now : PSSafe} {k : Nat} (hk : k < nV s) (hpt : IsPart p k (placeV p t))
    (hM : AtM s now k (nextN s k) (placeV p t - endV p k + 1) (el p.2.2 (k : Int) - clrV s k) m) : AtT s p (t + 1) m now := fun k2 hk2 hpt2 => by
  have hnl : ((nV s : Nat) : Int) = llen s.2.2.2.2.1 := rfl
  obtain ⟨a, b⟩ := hpt
  have hsucc := endV_succ p k
  have hps := place_succ N t
  have hall := N.all
  have q0 : (0 : Int) ≤ (k : Int) := by omega
  have q1 : (k : Int) < llen s.2.2.2.2.1 := by omega
  have nn := N.needs k hk
  have hclr : needsV s (k : Int) = minP s (k : Int) + clrV s (k : Int) := by unfold clrV; omega
  have hmono : ∀ i, i ≤ nV s → endV p i ≤ p.1 := fun i hi => (N.ends i hi).2
  by_cases c : placeV p t + 1 < endV p (k + 1)
  · -- the same part goes on
    have hlt : placeV p t + 1 < p.1 := by have := hmono (k + 1) (by omega); omega
    rw [if_pos hlt] at hps
    have : k2 = k := part_unique N hk2 hk hpt2 ⟨by omega, by omega⟩
    subst this
    rw [hps]
    refine ⟨fun hh => by omega, fun _ => ?_⟩
    rw [show placeV p t + 1 - endV p k2 = placeV p t - endV p k2 + 1 by omega]
    exact hM
  · -- the next one begins
    have e : placeV p t + 1 = endV p (k + 1) := by omega
    have hS2 : placeV p t - endV p k + 1 = el p.2.2 (k : Int) := by omega
    rw [hS2] at hM
    have hB := m_end hx hS hsh q0 q1 (by omega) hM
    have fin : ∀ k3 : Nat, k3 < nV s → (k3 : Int) = nextN s (k : Int) → placeV p (t + 1) = endV p k3 → (placeV p (t + 1) = endV p k2 → AtB s now k2 (prevN s k2) m) ∧ (endV p k2 < placeV p (t + 1) → AtM s now k2 (nextN s k2) (placeV p (t + 1) - endV p k2) (el p.2.2 (k2 : Int) - clrV s k2) m) := fun k3 hk3 e3 e4 => by
      have n3 := N.needs k3 hk3
      have : k2 = k3 := part_unique N hk2 hk3 hpt2 ⟨by omega, by rw [endV_succ]; omega⟩
      subst this
      refine ⟨fun _ => ?_, fun hh => by omega⟩
      rw [e3, prev_next q0 q1]
      exact hB
    by_cases d : k + 1 < nV s
    · have n3 := N.needs (k + 1) d
      have h2 := hmono (k + 2) (by omega)
      rw [endV_succ] at h2
      rw [if_pos (by omega)] at hps
      refine fin (k + 1) d ?_ (by omega)
      unfold nextN
      rw [if_pos (by omega)]; omega
    · have hkn : k + 1 = nV s := by omega
      rw [hkn, hall] at e
      rw [if_neg (by omega)] at hps
      refine fin 0 (by omega) ?_ (by rw [hps]; rfl)
      unfold nextN
      rw [if_neg (by omega)]; rfl

theorem m_none {s : PSSite} {now : PSSafe} {q q' u v m : Int} (hm : m ≤ 0) : AtM s now q q' u v m := fun _ _ _ hc => by
  obtain ⟨i, i1, i2, _⟩ := hc
  omega

/-- what one tick brings -/
theorem lock_tick {s : PSSite} {p : PSPlan} (hx : SFits s) (hS : SiteOK s) (hsh : Short s) (N : PNums s p) {t m : Int} {now : PSSafe} {k : Nat} {u : Int} (hk : k < nV s) (hpt : IsPart p k (placeV p t)) (hu : u = placeV p t - endV p k) (hcy : p.1 ≤ 100)
    (hG : GoesP s now) (m0 : 0 ≤ m) (hpl : 1 ≤ m → Pl s now) (hT : AtT s p t m now) :
    (llen s.2.2.2.2.1 ≤ m → wantV s p k u = (k : Int) → fullP s (stepV s now (wantV s p k u)) k) ∧
    ∀ m', (m' = if u = 0 then (if fullB s (stepV s now (wantV s p k u)) k = true then m + 1 else 0) else m) → GoesP s (stepV s now (wantV s p k u)) ∧ (1 ≤ m' → Pl s (stepV s now (wantV s p k u))) ∧ AtT s p (t + 1) m' (stepV s now (wantV s p k u)) := by
  have hnl : ((nV s : Nat) : Int) = llen s.2.2.2.2.1 := rfl
  have h := sok hx hS
  have q0 : (0 : Int) ≤ (k : Int) := by omega
  have q1 : (k : Int) < llen s.2.2.2.2.1 := by omega
  have np := hS.shape.p1
  have hpt2 := hpt
  obtain ⟨a, b⟩ := hpt2
  have nn := N.needs k hk
  have cy := N.cyc
  obtain ⟨x0, x1⟩ := place_in N t
  have e0 := (N.ends k (by omega)).1
  have T := ptimes hx hS q0 q1
  have tm := T.min
  have tc := T.clr
  have hclr : needsV s (k : Int) = minP s (k : Int) + clrV s (k : Int) := by unfold clrV; omega
  have hnx : nextP s (k : Int) = nextN s (k : Int) := (next_e hS.shape q0 q1).2
  have hw : wantV s p k u = if el p.2.2 (k : Int) - clrV s (k : Int) ≤ u then nextN s (k : Int) else (k : Int) := by unfold wantV; rw [hnx]
  have hGs := goes_step h hG (wantV s p k u)
  obtain ⟨tB, tM⟩ := hT k hk hpt
  obtain ⟨r0, r1, r2⟩ := next_prev (s := s) q0 q1
  by_cases hu0 : u = 0
  · have hB := tB (by omega)
    have hwk : wantV s p k u = (k : Int) := by rw [hw, if_neg (by omega)]
    rw [hwk] at hGs ⊢
    refine ⟨fun hm _ => ?_, fun m' hm' => ⟨hGs, ?_⟩⟩
    · exact b_full hx hS hsh (hpl (by omega)) q0 q1 r0 r1 (by rw [(next_e hS.shape r0 r1).2]; exact r2) hm hB
    · rw [if_pos hu0] at hm'
      by_cases hf : fullB s (stepV s now (k : Int)) k = true
      · rw [if_pos hf] at hm'
        subst hm'
        have hfp := fullB_iff.1 hf
        refine ⟨fun _ => full_pl (php hx hS q0 q1) hGs hfp, at_advance hx hS hsh N hk hpt ?_⟩
        have := b_step (v := el p.2.2 (k : Int) - clrV s (k : Int)) hx hS hG q0 q1 (by omega) m0 hB hfp
        rw [show placeV p t - endV p k + 1 = 1 by omega]
        exact this
      · rw [if_neg hf] at hm'
        subst hm'
        exact ⟨fun hh => by omega, at_advance hx hS hsh N hk hpt (m_none (by omega))⟩
  · have hM := tM (by omega)
    rw [← hu] at hM
    refine ⟨fun hm hwk => ?_, fun m' hm' => ⟨hGs, ?_⟩⟩
    · have hw2 := hw
      rw [hwk] at hw2 ⊢
      exact m_full hx hS (hpl (by omega)) q0 q1 (by omega) hw2.symm hM
    · rw [if_neg hu0] at hm'
      subst hm'
      by_cases c : 1 ≤ m'
      · have hP := hpl c
        refine ⟨fun _ => pl_step h hP _, at_advance hx hS hsh N hk hpt ?_⟩
        rw [← hu, hw]
        exact m_step hx hS hsh hP q0 q1 (by omega) (by omega) (by omega) hM
      · exact ⟨fun hh => absurd hh c, at_advance hx hS hsh N hk hpt (m_none (by omega))⟩

theorem wants_bad {s : PSSite} {p : PSPlan} {t e : Int} (h : plan_At_t (s, (p, t)) = some (0, (0, e))) (h0 : e ≠ 0) : plan_Wants_t (s, (p, t)) = some (0, e) := by
  unfold plan_Wants_t
  rw [elimO_eq _ _ h, cnd_pos _ _ (by simp [h0])]

theorem planLocks_law (x : PSSite × PSPlan) (hf : FitsAll [SSite, SPlan] x) : law17_PlanLocks_t x = some true := by
  obtain ⟨s, p⟩ := x
  have hx : SFits s := sfits hf.1
  have hp : PFits p := ⟨hf.2.1, hf.2.2.2.1, fun m hm => hf.2.2.2.2 m hm⟩
  unfold law17_PlanLocks_t
  rw [show law17_alive_t () = some true from rfl, elimO_eq _ _ rfl]
  obtain ⟨g, hg⟩ := great_s s hx
  rw [elimO_eq _ _ hg, cnd_if]
  split
  · rfl
  rename_i hc0
  simp only [Bool.or_eq_true, decide_eq_true_eq, Bool.not_eq_true', not_or, Bool.true_eq_false] at hc0
  obtain ⟨⟨_, _⟩, hcy⟩ := hc0.1
  obtain ⟨e, h2, h3⟩ := check_s hx
  have hok : e = 0 → SOK s := fun h0 => sok hx (check_ok h3 h0)
  by_cases h0 : e = 0
  · subst h0
    have hS := check_ok h3 rfl
    have h := sok hx hS
    by_cases hpk : PlanOK s p
    · have N := pnums hx hS hpk
      have cy := N.cyc
      obtain ⟨k0, hk0, _, ha⟩ := at_e hx hS h2 hp hpk (t := 0) (by omega) (by omega)
      rw [elimO_eq _ _ (wants_at hx hS h2 N hk0 ha), elimO_eq _ _ (safeFirst_e hok h2), if_neg (by simp)]
      try simp only
      rw [cnd_neg _ _ (by rfl)]
      obtain ⟨b, hb1, hb2⟩ := short_e hx hS
      rw [elimO_eq _ _ hb1]
      cases b with
      | false => rfl
      | true =>
        have hsh := hb2 rfl
        rw [cnd_neg _ _ (by rfl)]
        have n1 := h.n1
        have n2 := h.n2
        have p1 := hS.shape.p1
        have p2 := hS.shape.p2
        have hnl : ((nV s : Nat) : Int) = llen s.2.2.2.2.1 := rfl
        refine iter_up (fun z : Int × Int × PSSafe => z.2.1) (4 * p.1) (fun z => GoesP s z.2.2 ∧ 0 ≤ z.1 ∧ z.1 ≤ z.2.1 ∧ (1 ≤ z.1 → Pl s z.2.2) ∧ AtT s p z.2.1 z.1 z.2.2) (fun r => r = some true) (by omega) (by simp) (by simp only; omega) ?_ (fun z hI t0 t1 => ?_) (fun z hI hz => ?_)
        · refine ⟨goes_first h, by simp, by simp, fun hh => by simp only at hh; omega, fun k hk hpt => ⟨fun _ j _ _ hc => ?_, fun _ => m_none (by simp)⟩⟩
          obtain ⟨i, i1, i2, _⟩ := hc
          simp only at i2
          omega
        · obtain ⟨m, t, now⟩ := z
          obtain ⟨hG, m0, m1, hpl, hT⟩ := hI
          simp only at t0 t1 hG m0 m1 hpl hT
          obtain ⟨k, hk, hpt, hat⟩ := at_e hx hS h2 hp hpk (t := t) (by omega) (by omega)
          have q0 : (0 : Int) ≤ (k : Int) := by omega
          have q1 : (k : Int) < llen s.2.2.2.2.1 := by omega
          obtain ⟨l1, l2⟩ := lock_tick hx hS hsh N hk hpt rfl (by omega) hG m0 hpl hT
          have hwin : 0 ≤ wantV s p k (placeV p t - endV p k) ∧ wantV s p k (placeV p t - endV p k) < llen s.2.2.2.2.1 := by
            unfold wantV
            split
            · exact nextP_in hS.shape q0
            · omega
          generalize hu : placeV p t - endV p k = u at hat l1 l2 hwin
          have hwt := wants_at hx hS h2 N hk hat
          generalize hwv : wantV s p k u = w at hwt l1 l2 hwin
          have hask : turn_Asks_t (s, w) = some (asksV s w, 0) := by
            rw [Asks_e hx hok h2]
            unfold asksR
            rw [if_neg (by simp), if_neg (by omega)]
          obtain ⟨tk1, tk2⟩ := tick_e (p := w) h h2 hG
          have hfull : turn_Full_t (s, (stepV s now w, (k : Int))) = some (fullB s (stepV s now w) k, 0) := by
            rw [Full_e hx hok h2]
            unfold fullR
            rw [if_neg (by simp), if_neg (by have := (goes_step h hG w).may.st.n; simpa using this), if_neg (by omega)]
          try simp only
          rw [wr_i64 (4 * p.1) (by omega) (by omega), cnd_pos _ _ (decide_eq_true t1), elimO_eq _ _ hat, elimO_eq _ _ hwt, elimO_eq _ _ hask]
          try simp only
          rw [elimO_eq _ _ tk1]
          try simp only
          rw [elimO_eq _ _ tk2]
          try simp only
          rw [elimO_eq _ _ hfull]
          try simp only
          rw [cnd_neg _ _ (by rfl), wr_i64 (t + 1) (by omega) (by omega)]
          have hlock : ((decide (llen s.2.2.2.2.1 ≤ m) && (w == (k : Int))) && !(fullB s (stepV s now w) k)) = false := by
            apply Bool.eq_false_iff.2
            intro hh
            simp only [Bool.and_eq_true, decide_eq_true_eq, beq_iff_eq, Bool.not_eq_true'] at hh
            exact fullB_not.1 hh.2 (l1 hh.1.1 hh.1.2)
          have fin : ∀ m', (m' = if u = 0 then (if fullB s (stepV s now w) k = true then m + 1 else 0) else m) → m' ≤ t + 1 → 0 ≤ m' →
              UpRound (fun z : Int × Int × PSSafe => z.2.1) (fun z => GoesP s z.2.2 ∧ 0 ≤ z.1 ∧ z.1 ≤ z.2.1 ∧ (1 ≤ z.1 → Pl s z.2.2) ∧ AtT s p z.2.1 z.1 z.2.2) (fun r : Option Bool => r = some true) t (.next (m', (t + 1, stepV s now w))) := fun m' e1 e2 e3 => by
            obtain ⟨f1, f2, f3⟩ := l2 m' e1
            exact ⟨rfl, f1, e3, e2, f2, f3⟩
          by_cases c : u = 0
          · rw [cnd_pos (b := u == 0) _ _ (by simpa using c)]
            by_cases d : fullB s (stepV s now w) k = true
            · rw [cnd_neg (b := !(fullB s (stepV s now w) k)) _ _ (by rw [d]; rfl), cnd_neg _ _ hlock, wr_i64 (m + 1) (by omega) (by omega)]
              exact fin _ (by rw [if_pos c, if_pos d]) (by omega) (by omega)
            · have d' := Bool.eq_false_iff.2 d
              rw [cnd_pos (b := !(fullB s (stepV s now w) k)) _ _ (by rw [d']; rfl), cnd_neg _ _ hlock]
              exact fin _ (by rw [if_pos c, if_neg d]) (by omega) (by omega)
          · rw [cnd_neg (b := u == 0) _ _ (by simpa using c), cnd_neg _ _ hlock]
            exact fin _ (by rw [if_neg c]) (by omega) m0
        · obtain ⟨m, t, now⟩ := z
          simp only at hz
          subst hz
          try simp only
          rw [wr_i64 (4 * p.1) (by omega) (by omega), cnd_neg _ _ (decide_eq_false (by omega))]
          exact rfl
    · rw [elimO_eq _ _ (wants_bad (at_no hx hS h2 hp hpk) (by decide)), elimO_eq _ _ (safeFirst_e hok h2)]
      rfl
  · rw [elimO_eq _ _ (wants_bad (at_bad h2 h0) h0), elimO_eq _ _ (safeFirst_e hok h2)]
    rw [if_pos h0, cnd_pos _ _ (by simp [h0])]

end Go.Proofs.YtfdnmjabjmedgaaDoor
