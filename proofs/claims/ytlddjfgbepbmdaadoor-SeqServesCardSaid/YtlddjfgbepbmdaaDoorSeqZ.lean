/- Part of a proof: plain readings of Go functions, their contracts, or plain facts of them. -/
import Derived.Test.YtlddjfgbepbmdaaDoorSeqY2
namespace Go.Proofs.YtlddjfgbepbmdaaDoor
open Go.Den

/-! # A phase that is called is served -/
theorem cost_step {s : PSSite} {a : Int} (a0 : 0 ≤ a) : costTo s (a + 1).toNat = costTo s a.toNat + ((el s.2.2.2.2.1 a).2.2.1 + turnV s + 2) := by
  rw [show (a + 1).toNat = a.toNat + 1 by omega, costTo, Int.toNat_of_nonneg a0]

theorem cost_mono {s : PSSite} (h : SOK s) (hS : SiteOK s) {a : Nat} : ∀ d : Nat, ((a + d : Nat) : Int) ≤ llen s.2.2.2.2.1 → costTo s a ≤ costTo s (a + d)
  | 0, _ => Int.le_refl _
  | d + 1, hd => by
    have ih := cost_mono h hS (a := a) d (by omega)
    have ht := turn_in h
    have hm := (hS.phased.1 ((a + d : Nat) : Int) _ (idx_el (by omega) (by omega))).max
    have e : costTo s (a + (d + 1)) = costTo s (a + d) + ((el s.2.2.2.2.1 ((a + d : Nat) : Int)).2.2.1 + turnV s + 2) := rfl
    have htv : turnV s = leastV s + longV s + 2 := rfl
    rw [e]; omega
theorem cost_le {s : PSSite} (h : SOK s) (hS : SiteOK s) {a b : Int} (a0 : 0 ≤ a) (hab : a ≤ b) (hb : b ≤ llen s.2.2.2.2.1) : costTo s a.toNat ≤ costTo s b.toNat := by
  have := cost_mono h hS (a := a.toNat) (b - a).toNat (by omega)
  rw [show a.toNat + (b - a).toNat = b.toNat by omega] at this
  exact this

/-- what is ahead of phase P, from phase a on, going round -/
def aheadV (s : PSSite) (P a : Int) : Int :=
  if a ≤ P then costTo s P.toNat - costTo s a.toNat else costTo s P.toNat + costTo s (llen s.2.2.2.2.1).toNat - costTo s a.toNat

theorem ahead_self {s : PSSite} {P : Int} : aheadV s P P = 0 := by unfold aheadV; rw [if_pos (Int.le_refl _)]; omega
theorem ahead_all {s : PSSite} (h : SOK s) (hS : SiteOK s) {P a : Int} (P0 : 0 ≤ P) (P1 : P < llen s.2.2.2.2.1) (a0 : 0 ≤ a) (a1 : a < llen s.2.2.2.2.1) : 0 ≤ aheadV s P a ∧ aheadV s P a ≤ costTo s (llen s.2.2.2.2.1).toNat := by
  have h1 := (cost_in h hS P.toNat (by omega)).1
  have h2 := (cost_in h hS a.toNat (by omega)).1
  have h3 := cost_le h hS P0 (Int.le_of_lt P1) (Int.le_refl _)
  have h4 := cost_le h hS a0 (Int.le_of_lt a1) (Int.le_refl _)
  unfold aheadV
  split
  · rename_i c
    have := cost_le h hS a0 c (by omega)
    omega
  · rename_i c
    have := cost_le h hS P0 (b := a) (by omega) (by omega)
    omega
/-- the first one that is called lies nearer -/
theorem ahead_move {s : PSSite} (h : SOK s) (hS : SiteOK s) {P a i i0 : Int} (P1 : P < llen s.2.2.2.2.1) (a0 : 0 ≤ a) (a1 : a < llen s.2.2.2.2.1) (i1 : 1 ≤ i) (hi : i ≤ i0) (hi0 : i0 = P - a ∧ a < P ∨ i0 = P - a + llen s.2.2.2.2.1 ∧ P < a) :
    aheadV s P (roundP s a i) + ((el s.2.2.2.2.1 a).2.2.1 + turnV s + 2) ≤ aheadV s P a := by
  have hst := cost_step (s := s) a0
  unfold aheadV
  rcases hi0 with ⟨e, c⟩ | ⟨e, c⟩
  · rw [roundP_lt a0 (by omega) (by omega), if_pos (by omega), if_pos (by omega)]
    have := cost_le h hS (a := a + 1) (b := a + i) (by omega) (by omega) (by omega)
    omega
  · rw [if_neg (show ¬ a ≤ P by omega)]
    by_cases c2 : a + i < llen s.2.2.2.2.1
    · rw [roundP_lt a0 (by omega) c2, if_neg (by omega)]
      have := cost_le h hS (a := a + 1) (b := a + i) (by omega) (by omega) (by omega)
      omega
    · rw [roundP_ge (by omega) (by omega), if_pos (by omega)]
      have := cost_le h hS (a := a + 1) (b := llen s.2.2.2.2.1) (by omega) (by omega) (Int.le_refl _)
      have := (cost_in h hS (a + i - llen s.2.2.2.2.1).toNat (by omega)).1
      omega

open Classical in
/-- how many ticks are left at most -/
noncomputable def leftV (s : PSSite) (P : Int) (q : PSSeq) (now : PSSafe) (t : Int) : Int :=
  if fullP s now q.1 then aheadV s P q.1 + (leastV s + longV s + 1) - ((el s.2.2.2.2.1 q.1).2.2.1 + turnV s + 2) + max 0 ((el s.2.2.2.2.1 q.1).2.2.1 - 1 - q.2)
  else aheadV s P q.1 + (leastV s + longV s + 1) - t

structure Serve (s : PSSite) (q : PSSeq) (now : PSSafe) (t : Int) : Prop where
  pl : Pl s now
  ok : SeqOK s q
  t0 : 0 ≤ t
  inv : (TInv s q.1 now t ∧ t ≤ leastV s + longV s) ∨ fullP s now q.1

theorem serve_start {s : PSSite} (h : SOK s) {q : PSSeq} {now : PSSafe} (hp : Pl s now) (hq : SeqOK s q) : Serve s q now 0 :=
  ⟨hp, hq, Int.le_refl _, .inl ⟨tinv_zero h _ _, by have := turn_in h; omega⟩⟩

theorem serve_turn {s : PSSite} (hs : SFits s) (hS : SiteOK s) (hb : turnV s ≤ 100000) {q q' : PSSeq} {now : PSSafe} {t : Int} (hp : Pl s now) (t0 : 0 ≤ t) (hI : TInv s q.1 now t) (hq' : SeqOK s q') (e : q'.1 = q.1) (ht : t ≤ leastV s + longV s) : Serve s q' (stepV s now q'.1) (t + 1) := by
  have h := sok hs hS
  have ht2 := turn_in h
  have htv : turnV s = leastV s + longV s + 2 := rfl
  have hph := php hs hS hq'.p0 hq'.p1
  rw [e] at hph ⊢
  refine ⟨pl_step h hp _, hq', by omega, ?_⟩
  rw [e]
  by_cases c : t + 1 ≤ leastV s + longV s
  · exact .inl ⟨tinv_step h hp t0 (by omega) hI, c⟩
  · exact .inr (tinv_full h hp hph (bounds_v h) (by omega) hI)

/-- a tick in which P is called, and not full -/
theorem serve_step {s : PSSite} (hs : SFits s) (hS : SiteOK s) (hb : turnV s ≤ 100000) {P : Int} (P0 : 0 ≤ P) (P1 : P < llen s.2.2.2.2.1) {q q' : PSSeq} {now : PSSafe} {t calls gaps : Int} (hI : Serve s q now t) (hcall : callB s calls P = true) (hnf : ¬ fullP s now P)
    (hN : NextIs s q (fullB s now q.1) calls gaps q') (hq' : SeqOK s q') : 1 ≤ leftV s P q now t ∧ ∃ t', Serve s q' (stepV s now q'.1) t' ∧ leftV s P q' (stepV s now q'.1) t' + 1 ≤ leftV s P q now t := by
  have h := sok hs hS
  have ht2 := turn_in h
  have htv : turnV s = leastV s + longV s + 2 := rfl
  have hph := hS.phased.1 q.1 _ (idx_el hI.ok.p0 hI.ok.p1)
  have hmax := hph.max
  have hle := hph.le
  have ha := ahead_all h hS P0 P1 hI.ok.p0 hI.ok.p1
  have t0 := hI.t0
  have s0 := hI.ok.s0
  by_cases hf : fullP s now q.1
  · have hne : P ≠ q.1 := fun e => hnf (by rw [e]; exact hf)
    have hfb := fullB_iff.2 hf
    rw [hfb] at hN
    obtain ⟨i0, j0, j1, j2, j3⟩ := roundP_ex hI.ok.p0 hI.ok.p1 P0 P1 hne
    have hothers : ¬ ∀ i, 1 ≤ i → i < llen s.2.2.2.2.1 → callB s calls (roundP s q.1 i) = false := fun hall => by
      have := hall i0 j0 j1
      rw [j2, hcall] at this; cases this
    have hi0 : i0 = P - q.1 ∧ q.1 < P ∨ i0 = P - q.1 + llen s.2.2.2.2.1 ∧ P < q.1 := by
      have := hI.ok.p0; have := hI.ok.p1
      rcases j3 with e | e
      · exact .inl ⟨e, by omega⟩
      · exact .inr ⟨e, by omega⟩
    have hm1 := ahead_move h hS P1 hI.ok.p0 hI.ok.p1 (i := i0) j0 (Int.le_refl _) hi0
    rw [j2, ahead_self] at hm1
    have hL : leftV s P q now t = aheadV s P q.1 + (leastV s + longV s + 1) - ((el s.2.2.2.2.1 q.1).2.2.1 + turnV s + 2) + max 0 ((el s.2.2.2.2.1 q.1).2.2.1 - 1 - q.2) := by unfold leftV; rw [if_pos hf]
    rw [hL]
    refine ⟨by omega, ?_⟩
    by_cases c : (min (q.2 + 1) 1048576 < (el s.2.2.2.2.1 q.1).2.1 ∨ (bitI gaps q.1 = false ∧ min (q.2 + 1) 1048576 < (el s.2.2.2.2.1 q.1).2.2.1) ∨ ∀ i, 1 ≤ i → i < llen s.2.2.2.2.1 → callB s calls (roundP s q.1 i) = false)
    · have e := hN.stay rfl c
      have hlt : min (q.2 + 1) 1048576 < (el s.2.2.2.2.1 q.1).2.2.1 := by
        rcases c with c | c | c
        · omega
        · exact c.2
        · exact absurd c hothers
      have e1 : q'.1 = q.1 := by rw [e]
      have e2 : q'.2 = min (q.2 + 1) 1048576 := by rw [e]
      have hfs : fullP s (stepV s now q'.1) q'.1 := by rw [e1]; exact full_stays h hI.pl hf
      refine ⟨t, ⟨pl_step h hI.pl _, hq', t0, .inr hfs⟩, ?_⟩
      unfold leftV
      rw [if_pos hfs, e1, e2]
      omega
    · obtain ⟨i, k0, k1, k2, k3, e⟩ := hN.move rfl c
      have hi : i ≤ i0 := by
        apply Classical.byContradiction
        intro hn
        have := k3 i0 j0 (by omega)
        rw [j2, hcall] at this; cases this
      have hmv := ahead_move h hS P1 hI.ok.p0 hI.ok.p1 (i := i) k0 hi hi0
      have e1 : q'.1 = roundP s q.1 i := by rw [e]
      have e2 : q'.2 = 0 := by rw [e]
      have hS0 := serve_turn (q := q') hs hS hb hI.pl (Int.le_refl 0) (tinv_zero h _ _) hq' rfl (by omega)
      refine ⟨0 + 1, hS0, ?_⟩
      have hph' := (hS.phased.1 q'.1 _ (idx_el hq'.p0 hq'.p1)).max
      unfold leftV
      rw [e2, e1] at *
      split <;> omega
  · have hfb := fullB_not.2 hf
    rw [hfb] at hN
    have e := hN.off rfl
    have e1 : q'.1 = q.1 := by rw [e]
    have e2 : q'.2 = 0 := by rw [e]
    obtain ⟨hT, ht⟩ := hI.inv.resolve_right hf
    have hL : leftV s P q now t = aheadV s P q.1 + (leastV s + longV s + 1) - t := by unfold leftV; rw [if_neg hf]
    rw [hL]
    refine ⟨by omega, t + 1, serve_turn hs hS hb hI.pl t0 hT hq' e1 ht, ?_⟩
    unfold leftV
    rw [e1, e2]
    split <;> omega

theorem left_start {s : PSSite} (h : SOK s) (hS : SiteOK s) {P : Int} (P0 : 0 ≤ P) (P1 : P < llen s.2.2.2.2.1) {q : PSSeq} {now : PSSafe} (hq : SeqOK s q) : leftV s P q now 0 ≤ boundV s := by
  have ha := ahead_all h hS P0 P1 hq.p0 hq.p1
  have ht := turn_in h
  have hm := (hS.phased.1 q.1 _ (idx_el hq.p0 hq.p1)).max
  have h0 := hq.s0
  unfold leftV boundV turnV
  split <;> omega

theorem seqServes_law (x : PSSite × PSSeq × PSSafe × Int × List Int × List Int) (hf : FitsAll [SSite, SSeq, SSafe, I64, U32s, U32s] x) : law16_SeqServes_t x = some true := by
  obtain ⟨s, q, now, P, calls, gaps⟩ := x
  have hs : SFits s := sfits hf.1
  have hcu : ∀ x ∈ calls, U32ok x := fun x hx => hf.2.2.2.2.1.2 x hx
  have hgu : ∀ x ∈ gaps, U32ok x := fun x hx => hf.2.2.2.2.2.2 x hx
  unfold law16_SeqServes_t
  rw [show law16_alive_t () = some true from rfl, elimO_eq _ _ rfl]
  obtain ⟨g, hg⟩ := great_s s hs
  rw [elimO_eq _ _ hg, cnd_if]
  split
  · rfl
  rename_i hcond
  simp only [Bool.or_eq_true, decide_eq_true_eq, not_or, Int.not_lt, Int.not_le, Bool.not_true, Bool.false_eq_true, not_false_eq_true, and_true, Bool.not_eq_true', beq_eq_false_iff_ne, ne_eq, Decidable.not_not, Bool.not_eq_true] at hcond
  obtain ⟨⟨⟨⟨⟨_, hw⟩, hst⟩, hfl⟩, P0⟩, P1⟩ := hcond
  have hw : llen now.1 ≤ 100 := hw
  obtain ⟨e, h2, h3⟩ := check_s hs
  have hok : e = 0 → SiteOK s := fun h => check_ok h3 h
  rw [elimO_eq _ _ (Bound_e hok hs h2)]
  by_cases hgo : e = 0 ∧ SeqOK s q ∧ llen now.1 = llen s.2.1
  · obtain ⟨h0, hq, hwn⟩ := hgo
    subst h0
    have hS := hok rfl
    have h := sok hs hS
    obtain ⟨q', _, _, _, _, _, hnx⟩ := next_e (calls := 0) (gaps := 0) hs hS h2 hq hwn ⟨by simp, by simp⟩ ⟨by simp, by simp⟩
    rw [if_neg (by simp), elimO_eq _ _ hnx, elimO_eq _ _ (gOpen_e (s := s) (now := now) (g := 0) (e := 0) (fun _ => h) h2 (by omega))]
    by_cases hG : GoesP s now
    · rw [cnd_if]
      split
      · rfl
      rename_i hc
      simp only [Bool.or_eq_true, decide_eq_true_eq, not_or, Int.not_lt] at hc
      have hb : boundV s ≤ 600 := hc.2
      have hm := hS.shape.p2
      have hcost := cost_in h hS (llen s.2.2.2.2.1).toNat (by have := llen_nonneg s.2.2.2.2.1; omega)
      have ht := turn_in h
      have htv : turnV s = leastV s + longV s + 2 := rfl
      have hbv : boundV s = turnV s + costTo s (llen s.2.2.2.2.1).toNat := rfl
      have hpl : Pl s now := ⟨hG, hst, hfl⟩
      refine iter_up (fun z : Int × PSSeq × PSSafe => z.1) (boundV s + 1) (fun z => z.1 ≤ boundV s ∧ ∃ t, Serve s z.2.1 z.2.2 t ∧ z.1 + leftV s P z.2.1 z.2.2 t ≤ boundV s) (fun r => r = some true) (by omega) (by simp) (by simp only; omega) ⟨by simp only; omega, 0, serve_start h hpl hq, by have := left_start (now := now) h hS P0 P1 hq; simp only; omega⟩ (fun z hI i0 i1 => ?_) (fun z hI hz => ?_)
      · obtain ⟨n, q, now⟩ := z
        obtain ⟨hn, t, hSv, hle⟩ := hI
        simp only at i0 i1 hn hSv hle
        obtain ⟨c, hc, hcu⟩ := at_e i0 hcu
        obtain ⟨gp, hgp, hgu⟩ := at_e i0 hgu
        have hwn := hSv.pl.goes.may.st.n
        have hfull : turn_Full_t (s, (now, P)) = some (fullB s now P, 0) := by
          rw [Full_e (e := 0) hs (fun _ => h) h2]
          unfold fullR
          rw [if_neg (by simp), if_neg (by simpa using hwn), if_neg (by omega)]
        try simp only
        rw [cnd_pos _ _ (decide_eq_true hn), elimO_eq _ _ hfull, cnd_neg _ _ (by rfl)]
        cases hfb : fullB s now P with
        | true => rw [cnd_pos _ _ (by rfl)]; exact rfl
        | false =>
          have hnf := fullB_not.1 hfb
          rw [cnd_neg _ _ (by rfl), elimO_eq _ _ hc, elimO_eq _ _ hgp, wr_u64i P0 (by omega), shl1 P0 (by omega)]
          have hpo := pow_ok P0 (by omega)
          have hcall : callB s (bitop .or .u32 c ((2 ^ P.toNat : Nat) : Int)) P = true := by
            unfold callB
            rw [bit_or hcu hpo, bit_pow P0]; simp
          obtain ⟨q', hN, hq', hst'⟩ := step_e hs hS h2 hSv.ok hSv.pl.goes (or_ok hcu hpo) hgu
          obtain ⟨hl1, t', hSv', hlt⟩ := serve_step hs hS (by omega) P0 P1 hSv hcall hnf hN hq'
          rw [elimO_eq _ _ hst', cnd_neg _ _ (by rfl), wr_i64 (n + 1) (by omega) (by omega)]
          exact ⟨rfl, by simp only; omega, t', hSv', by simp only; omega⟩
      · obtain ⟨n, q, now⟩ := z
        obtain ⟨hn, _⟩ := hI
        simp only at hz hn
        omega
    · rw [cnd_pos _ _ ?_]
      unfold openR
      rw [if_neg (by simp), if_pos hG]
      simp
  · have hno := next_no (calls := 0) (gaps := 0) h2 hgo
    have hne := no_ne e s q
    have hop : ∃ r, gate_Open_t (s, (now, 0)) = some r := ⟨_, gOpen_e (fun h => sok hs (hok h)) h2 (by omega)⟩
    obtain ⟨r, hr⟩ := hop
    rw [elimO_eq _ _ hno, elimO_eq _ _ hr, cnd_pos _ _ (by simp [hne])]

end Go.Proofs.YtlddjfgbepbmdaaDoor
