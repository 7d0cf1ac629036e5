/- Part of a proof: plain readings of Go functions, their contracts, or plain facts of them. -/
import Derived.Test.YtdgiapeofmlecaaGreatDoorTrgU
import Derived.Test.YtdgiapeofmlecaaGreatDoorTrgR
namespace Go.Proofs.YtdgiapeofmlecaaGreatDoor
open Go.Den

/-! # How many ticks a turn takes -/
noncomputable def nowAt (s : PSSite) (p : Int) : Nat → PSSafe → PSSafe
  | 0, now => now
  | k + 1, now => nowAt s p k (stepV s now p)
theorem nowAt_succ (s : PSSite) (p : Int) : ∀ (k : Nat) (now : PSSafe), nowAt s p (k + 1) now = stepV s (nowAt s p k now) p
  | 0, _ => rfl
  | k + 1, now => nowAt_succ s p k (stepV s now p)
theorem nowAt_goes {s : PSSite} (h : SOK s) (p : Int) : ∀ (k : Nat) (now : PSSafe), GoesP s now → GoesP s (nowAt s p k now)
  | 0, _, hG => hG
  | k + 1, now, hG => nowAt_goes h p k _ (goes_step h hG p)
theorem nowAt_pl {s : PSSite} (h : SOK s) (p : Int) : ∀ (k : Nat) (now : PSSafe), Pl s now → Pl s (nowAt s p k now)
  | 0, _, hG => hG
  | k + 1, now, hG => nowAt_pl h p k _ (pl_step h hG p)
theorem nowAt_full {s : PSSite} (h : SOK s) {p : Int} (hph : PhP s p) {now : PSSafe} (hG : GoesP s now) (n : Nat) (hf : fullP s (nowAt s p n now) p) : ∀ d : Nat, fullP s (nowAt s p (n + d) now) p
  | 0 => hf
  | d + 1 => by
    have ih := nowAt_full h hph hG n hf d
    rw [show n + (d + 1) = (n + d) + 1 from rfl, nowAt_succ]
    exact full_stays h (full_pl hph (nowAt_goes h p _ _ hG) ih) ih

def StepsIs (s : PSSite) (now : PSSafe) (p : Int) (r : Int × Int) : Prop :=
  (∃ n : Nat, n ≤ 4096 ∧ fullP s (nowAt s p n now) p ∧ (∀ k, k < n → ¬ fullP s (nowAt s p k now) p) ∧ r = ((n : Int), 0)) ∨ ((∀ k, k ≤ 4096 → ¬ fullP s (nowAt s p k now) p) ∧ r = (0, 4))
theorem steps_unique {s : PSSite} {now : PSSafe} {p : Int} {a b : Int × Int} (ha : StepsIs s now p a) (hb : StepsIs s now p b) : a = b := by
  rcases ha with ⟨n, n1, n2, n3, rfl⟩ | ⟨n1, rfl⟩
  · rcases hb with ⟨m, m1, m2, m3, rfl⟩ | ⟨m1, rfl⟩
    · have : n = m := by
        rcases Nat.lt_trichotomy n m with hh | hh | hh
        · exact absurd n2 (m3 n hh)
        · exact hh
        · exact absurd m2 (n3 m hh)
      rw [this]
    · exact absurd n2 (m1 n n1)
  · rcases hb with ⟨m, m1, m2, m3, rfl⟩ | ⟨m1, rfl⟩
    · exact absurd m2 (n1 m m1)
    · rfl

/-- the loop that counts -/
theorem steps_loop {s : PSSite} {now : PSSafe} {p : Int} {F : Int × PSSafe → Step (Int × PSSafe) (Option (Int × Int))} (h : SOK s) (hG : GoesP s now)
    (hF : ∀ (n : Int) (w : PSSafe), 0 ≤ n → n < 4097 → GoesP s w → (fullP s w p → F (n, w) = .done (some (n, 0))) ∧ (¬ fullP s w p → F (n, w) = .next (n + 1, stepV s w p))) (hFe : ∀ w, F (4097, w) = .done (some (0, 4))) :
    ∃ r, iter none F lots (0, now) = some r ∧ StepsIs s now p r := by
  refine iter_up (fun z : Int × PSSafe => z.1) 4097 (fun z => z.2 = nowAt s p z.1.toNat now ∧ ∀ k : Nat, (k : Int) < z.1 → ¬ fullP s (nowAt s p k now) p) (fun r => ∃ x, r = some x ∧ StepsIs s now p x) (by omega) (by simp) (by simp) ⟨rfl, fun k hk => by simp only at hk; omega⟩ (fun z hI i0 i1 => ?_) (fun z hI hz => ?_)
  · obtain ⟨n, w⟩ := z
    obtain ⟨hw, hk⟩ := hI
    simp only at i0 i1 hw hk
    have hGw : GoesP s w := by rw [hw]; exact nowAt_goes h p _ _ hG
    obtain ⟨f1, f2⟩ := hF n w i0 i1 hGw
    by_cases c : fullP s w p
    · rw [f1 c]
      refine ⟨(n, 0), rfl, .inl ⟨n.toNat, by omega, by rw [← hw]; exact c, fun k hkn => hk k (by omega), by rw [Int.toNat_of_nonneg i0]⟩⟩
    · rw [f2 c]
      refine ⟨rfl, ?_, fun k hkn => ?_⟩
      · simp only
        rw [show (n + 1).toNat = n.toNat + 1 by omega, nowAt_succ, hw]
      · simp only at hkn
        by_cases e : (k : Int) = n
        · have : k = n.toNat := by omega
          rw [this, ← hw]; exact c
        · exact hk k (by omega)
  · obtain ⟨n, w⟩ := z
    obtain ⟨_, hk⟩ := hI
    simp only at hz hk
    subst hz
    rw [hFe]
    exact ⟨(0, 4), rfl, .inr ⟨fun k hk4 => hk k (by omega), rfl⟩⟩

noncomputable def stepsE (e : Int) (s : PSSite) (now : PSSafe) (p : Int) : Int := open Classical in if e ≠ 0 then e else if ¬ GoesP s now then 8 else if p < 0 ∨ llen s.2.2.2.2.1 ≤ p then 2 else 0
def StepsR (e : Int) (s : PSSite) (now : PSSafe) (p : Int) (r : Int × Int) : Prop :=
  (stepsE e s now p ≠ 0 ∧ r = (0, stepsE e s now p)) ∨ (e = 0 ∧ GoesP s now ∧ 0 ≤ p ∧ p < llen s.2.2.2.2.1 ∧ StepsIs s now p r)
theorem stepsR_unique {e : Int} {s : PSSite} {now : PSSafe} {p : Int} {a b : Int × Int} (ha : StepsR e s now p a) (hb : StepsR e s now p b) : a = b := by
  have no : ∀ (h0 : e = 0) (hG : GoesP s now) (p0 : 0 ≤ p) (p1 : p < llen s.2.2.2.2.1), stepsE e s now p = 0 := fun h0 hG p0 p1 => by
    unfold stepsE
    rw [if_neg (by simpa using h0), if_neg (by simpa using hG), if_neg (by omega)]
  rcases ha with ⟨h1, rfl⟩ | ⟨h1, h2, h3, h4, h5⟩
  · rcases hb with ⟨_, rfl⟩ | ⟨g1, g2, g3, g4, g5⟩
    · rfl
    · exact absurd (no g1 g2 g3 g4) h1
  · rcases hb with ⟨g1, _⟩ | ⟨_, _, _, _, g5⟩
    · exact absurd (no h1 h2 h3 h4) g1
    · exact steps_unique h5 g5

theorem repeat_e {n : Int} (h1 : 1 ≤ n) (h2 : n ≤ 100000) : slices_Repeat_t ((1 :: []), n) = some (lrep n 1) := by
  unfold slices_Repeat_t
  simp only
  rw [if_pos ⟨h1, by omega⟩]

theorem Steps_e {s : PSSite} {now : PSSafe} {p e : Int} (hs : SFits s) (hok : e = 0 → SOK s) (hc : site_Check_t s = some e) (hw : llen now.1 ≤ 1000) : ∃ r, turn_Steps_t (s, (now, p)) = some r ∧ StepsR e s now p r := by
  unfold turn_Steps_t
  rw [joinPt_app, elimO_eq _ _ hc]
  by_cases h0 : e = 0
  · subst h0
    have h := hok rfl
    have n1 := h.n1
    have n2 := h.n2
    have hal : llen (lrep (llen s.2.1) (1 : Int)) = llen s.2.1 := llen_lrep (by omega) _
    rw [cnd_neg _ _ (by rfl)]
    try simp only
    rw [elimO_eq _ _ (repeat_e (n := llen s.2.1) n1 (by omega)), elimO_eq _ _ (gAdmit_e (e := 0) (fun _ => h) hc hw)]
    unfold admitR
    rw [if_neg (by simp)]
    by_cases hG : GoesP s now
    · rw [if_neg (by simpa using hG), if_neg (by simpa using hal), cnd_neg _ _ (by rfl)]
      by_cases c : p < 0 ∨ llen s.2.2.2.2.1 ≤ p
      · rw [cnd_pos _ _ (by simpa using c)]
        have : stepsE 0 s now p = 2 := by
          unfold stepsE
          rw [if_neg (by simp), if_neg (by simpa using hG), if_pos c]
        exact ⟨_, cnd_pos _ _ (by rfl), .inl ⟨by rw [this]; decide, by rw [this]⟩⟩
      · rw [cnd_neg _ _ (by simpa using c)]
        try simp only
        have p0 : 0 ≤ p := by omega
        have p1 : p < llen s.2.2.2.2.1 := by omega
        rw [cnd_neg _ _ (by rfl), elimO_eq _ _ (asksT_e hs h p0 p1)]
        obtain ⟨r, r1, r2⟩ := steps_loop (s := s) (now := now) (p := p) (F := fun x3 : Int × PSSafe =>
(cnd (decide (x3.1 < 4097))
(elimO (turn_full_t (s, (x3.2, p))) (.done none) (fun x4 =>
(cnd x4
(.done (some (x3.1, 0)))
(elimO (gate_Admit_t (s, (x3.2, asksV s p))) (.done none) (fun x5 =>
(elimO (safe_Next_t (s, (x3.2, x5.1))) (.done none) (fun x6 =>
(.next ((wr .i64 (x3.1 + 1)), x6.1)))))))))
(.done (some (0, 4))))) h hG (fun n w i0 i1 hGw => by
          obtain ⟨t1, t2⟩ := tick_e (p := p) h hc hGw
          have hfe := full_e hs h hGw.may.st.n p0 p1
          constructor
          · intro hf
            try simp only
            rw [cnd_pos _ _ (decide_eq_true i1), elimO_eq _ _ hfe, cnd_pos _ _ (fullB_iff.2 hf)]
          · intro hf
            try simp only
            rw [cnd_pos _ _ (decide_eq_true i1), elimO_eq _ _ hfe, cnd_neg _ _ (fullB_not.2 hf), elimO_eq _ _ t1, elimO_eq _ _ t2, wr_i64 (n + 1) (by omega) (by omega)]) (fun w => by
          try simp only
          rw [cnd_neg _ _ (decide_eq_false (by omega))])
        exact ⟨r, r1, .inr ⟨rfl, hG, p0, p1, r2⟩⟩
    · rw [if_pos hG, cnd_pos _ _ (by rfl)]
      have : stepsE 0 s now p = 8 := by
        unfold stepsE
        rw [if_neg (by simp), if_pos hG]
      exact ⟨_, cnd_pos _ _ (by rfl), .inl ⟨by rw [this]; decide, by rw [this]⟩⟩
  · rw [cnd_pos _ _ (by simp [h0])]
    have : stepsE e s now p = e := by
      unfold stepsE
      rw [if_pos h0]
    exact ⟨_, cnd_pos _ _ (by simp [h0]), .inl ⟨by rw [this]; exact h0, by rw [this]⟩⟩

/-! ## a turn ends -/
theorem turn_ends {s : PSSite} (h : SOK s) {p : Int} (hph : PhP s p) (hb : leastV s + longV s < 100000) {now : PSSafe} (hp : Pl s now) : ∃ n : Nat, (n : Int) ≤ leastV s + longV s + 1 ∧ fullP s (nowAt s p n now) p := by
  have ht := turn_in h
  have key : ∀ k : Nat, (k : Int) ≤ leastV s + longV s → TInv s p (nowAt s p k now) k := fun k => by
    induction k with
    | zero => intro _; exact tinv_zero h p now
    | succ k ih =>
      intro hk
      rw [nowAt_succ]
      exact tinv_step h (nowAt_pl h p k now hp) (by omega) (by omega) (ih (by omega))
  refine ⟨(leastV s + longV s).toNat + 1, by omega, ?_⟩
  rw [nowAt_succ]
  have := key (leastV s + longV s).toNat (by omega)
  exact tinv_full h (nowAt_pl h p _ now hp) hph (bounds_v h) (by omega) this

theorem held_step {s : PSSite} {now : PSSafe} {p : Int} (h : SOK s) (hH : now.2.2 = true ∨ 0 < now.2.1) : (stepV s now p).2.2 = false ∧ (stepV s now p).2.1 = if now.2.2 = true then max 0 (grt s - 1) else max 0 (now.2.1 - 1) := by
  have n1 := h.n1
  have hl := llen_asks s p
  have ha : admitV s now (asksV s p) = lrep (llen (asksV s p)) 1 := by
    unfold admitV
    rw [if_neg (by rw [asks_flash h]; simp), if_pos hH]
  have hfl : flashB (lrep (llen (asksV s p)) (1 : Int)) = false := by
    apply Bool.eq_false_iff.2
    intro hh
    have := red_flash0 hh (g := 0) (by omega) (by rw [llen_lrep (by omega)]; omega)
    rw [el_of (idx_lrep (by omega) (by omega) (1 : Int))] at this
    cases this
  unfold stepV
  rw [ha]
  refine ⟨hfl, ?_⟩
  show (if flashB (lrep (llen (asksV s p)) (1 : Int)) = true then grt s else _) = _
  rw [if_neg (by rw [hfl]; simp)]

theorem wait_ends {s : PSSite} (h : SOK s) {p : Int} (hph : PhP s p) (hb : leastV s + longV s < 100000) : ∀ (d : Nat) (now : PSSafe), GoesP s now → now.2.2 = false → now.2.1 = (d : Int) → ∃ n : Nat, (n : Int) ≤ d + (leastV s + longV s + 1) ∧ fullP s (nowAt s p n now) p
  | 0, now, hG, hf, hd => by
    obtain ⟨n, n1, n2⟩ := turn_ends h hph hb ⟨hG, hd, hf⟩
    exact ⟨n, by omega, n2⟩
  | d + 1, now, hG, hf, hd => by
    obtain ⟨a, b⟩ := held_step (p := p) h (.inr (by rw [hd]; omega))
    rw [if_neg (by rw [hf]; simp), hd] at b
    obtain ⟨n, n1, n2⟩ := wait_ends h hph hb d (stepV s now p) (goes_step h hG p) a (by rw [b]; omega)
    exact ⟨n + 1, by omega, n2⟩

theorem all_ends {s : PSSite} (h : SOK s) {p : Int} (hph : PhP s p) (hb : leastV s + longV s < 100000) {now : PSSafe} (hG : GoesP s now) : ∃ n : Nat, (n : Int) ≤ turnV s + (if now.2.2 = true then grt s else now.2.1) ∧ fullP s (nowAt s p n now) p := by
  have htv : turnV s = leastV s + longV s + 2 := rfl
  have hg := (grt_is h).lo
  have hlo := hG.may.st.lo
  cases hf : now.2.2 with
  | false =>
    obtain ⟨n, n1, n2⟩ := wait_ends h hph hb now.2.1.toNat now hG hf (by omega)
    exact ⟨n, by rw [if_neg (by simp)]; omega, n2⟩
  | true =>
    obtain ⟨a, b⟩ := held_step (p := p) h (.inl hf)
    rw [if_pos hf] at b
    obtain ⟨n, n1, n2⟩ := wait_ends h hph hb (max 0 (grt s - 1)).toNat (stepV s now p) (goes_step h hG p) a (by rw [b]; omega)
    exact ⟨n + 1, by rw [if_pos rfl]; omega, n2⟩

theorem far_e {s : PSSite} {now : PSSafe} {e : Int} (hok : e = 0 → SOK s) (h4 : ref05_Check_t s = some e) : law15_far_t (s, now) = some (if e = 0 then decide (400 < turnV s) || decide (200 < now.2.1) else false) := by
  unfold law15_far_t
  rw [elimO_eq _ _ h4]
  by_cases h0 : e = 0
  · rw [cnd_pos _ _ (by simp [h0]), elimO_eq _ _ (refTurn_e (hok h0)), if_pos h0]
  · rw [cnd_neg _ _ (by simp [h0]), if_neg h0]

end Go.Proofs.YtdgiapeofmlecaaGreatDoor
