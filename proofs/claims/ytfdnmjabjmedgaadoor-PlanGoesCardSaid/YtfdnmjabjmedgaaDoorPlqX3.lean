/- Part of a proof: plain readings of Go functions, their contracts, or plain facts of them. -/
import Derived.Test.YtfdnmjabjmedgaaDoorPlqK
import Derived.Test.YtfdnmjabjmedgaaDoorPlqU
namespace Go.Proofs.YtfdnmjabjmedgaaDoor
open Go.Den

/-! # What is wanted at a tick -/
def minP (s : PSSite) (k : Int) : Int := (el s.2.2.2.2.1 k).2.1
def clrV (s : PSSite) (k : Int) : Int := needsV s k - minP s k

/-- what is known of a phase's times -/
structure PTimes (s : PSSite) (k : Int) : Prop where
  min : 1 ≤ minP s k ∧ minP s k ≤ 1048576
  clr : 0 ≤ clrV s k ∧ clrV s k ≤ 1048576
  clear : ∀ a b, 0 ≤ a → a < llen s.2.1 → 0 ≤ b → b < llen s.2.1 → inP s k a = true → inP s (nextP s k) b = true → apartB s a b = true → betw s a b ≤ clrV s k

theorem ptimes {s : PSSite} (hx : SFits s) (h : SiteOK s) {k : Int} (k0 : 0 ≤ k) (k1 : k < llen s.2.2.2.2.1) : PTimes s k := by
  have hp := idx_el k0 k1
  obtain ⟨_, pn, m, hpn, hci, hv, n1, n2⟩ := needs_s hx h.shape h.apart h.phased hp
  have hph := h.phased.1 k _ hp
  have hmin : minP s k = (el s.2.2.2.2.1 k).2.1 := rfl
  have hc : clrV s k = m := by unfold clrV; omega
  have hle := clear_le hx h.shape h.apart hci
  refine ⟨hph.min, by rw [hc]; exact hle, fun a b a0 a1 b0 b1 ha hb hab => ?_⟩
  rw [hc]
  refine hci.2.1 a _ a0 a1 ⟨ha, el s.2.2.1 a, el s.2.2.2.1 a, b, idx_el a0 (by rw [h.shape.a]; exact a1), idx_el a0 (by rw [h.shape.b]; exact a1), hab, ?_, ?_⟩
  · have e := el_of hpn
    unfold inP at hb
    rw [e] at hb; exact hb
  · exact idx_el b0 (by rw [h.shape.rows a _ (idx_el a0 (by rw [h.shape.b]; exact a1))]; exact b1)

theorem next_e {s : PSSite} (hs : ShapeOK s) {k : Int} (k0 : 0 ≤ k) (k1 : k < llen s.2.2.2.2.1) : plan_next_t (s, k) = some (nextP s k) ∧ nextP s k = if k + 1 < llen s.2.2.2.2.1 then k + 1 else 0 := by
  have p1 := hs.p1
  have p2 := hs.p2
  constructor
  · unfold plan_next_t nextP
    rw [cnd_pos _ _ (by simp; omega), wr_i64 (k + 1) (by omega) (by omega)]
    rfl
  · unfold nextP
    split
    · rename_i c; exact Int.tmod_eq_of_lt (by omega) c
    · have : k + 1 = llen s.2.2.2.2.1 := by omega
      rw [this, Int.tmod_self]

/-- which phase is wanted, so far into a part -/
def wantV (s : PSSite) (p : PSPlan) (k : Nat) (u : Int) : Int := if el p.2.2 (k : Int) - clrV s (k : Int) ≤ u then nextP s (k : Int) else (k : Int)
theorem wants_at {s : PSSite} {p : PSPlan} {t : Int} (hx : SFits s) (h : SiteOK s) (hc : site_Check_t s = some 0) (N : PNums s p) {k : Nat} {u : Int} (hk : k < nV s) (hat : plan_At_t (s, (p, t)) = some ((k : Int), (u, 0))) : plan_Wants_t (s, (p, t)) = some (wantV s p k u, 0) := by
  have hnl : ((nV s : Nat) : Int) = llen s.2.2.2.2.1 := rfl
  have hln : llen p.2.2 = (nV s : Int) := by unfold llen; rw [N.len]
  have hidx := idx_el (l := p.2.2) (i := (k : Int)) (by omega) (by omega)
  have hph := idx_el (l := s.2.2.2.2.1) (i := (k : Int)) (by omega) (by omega)
  have T := ptimes hx h (k := (k : Int)) (by omega) (by omega)
  have nn := N.needs k hk
  have e := N.ends (k + 1) (by omega)
  have e0 := N.ends k (by omega)
  have cy := N.cyc
  rw [endV_succ] at e
  have hcl : plan_clear_t (s, (k : Int)) = some (clrV s (k : Int)) := pclear_e hx h hc hph
  have hcc := T.clr
  have hmm := T.min
  unfold plan_Wants_t
  rw [elimO_eq _ _ hat]
  try simp only
  rw [cnd_neg (b := !((0 : Int) == 0)) _ _ rfl, elimO_eq _ _ hidx, elimO_eq _ _ hcl, wr_i64 (el p.2.2 (k : Int) - clrV s (k : Int)) (by omega) (by omega)]
  unfold wantV
  by_cases c : el p.2.2 (k : Int) - clrV s (k : Int) ≤ u
  · rw [cnd_pos _ _ (decide_eq_true c), if_pos c, elimO_eq _ _ (next_e h.shape (by omega) (by omega)).1]
  · rw [cnd_neg _ _ (decide_eq_false c), if_neg c]

/-! # Each group is in some phase -/
theorem cntN_zero {x a n : Nat} (h : ∀ i, i < n → x.testBit (a + i) = false) : cntN x a n = 0 := by
  unfold cntN
  rw [List.length_eq_zero_iff, List.filter_eq_nil_iff]
  intro i hi
  rw [h i (by simpa using hi)]; decide
theorem cntN_full {x n : Nat} (h : cntN x 0 n = n) : ∀ i, i < n → x.testBit i = true := fun i hi => by
  unfold cntN at h
  have : (List.range n).filter (fun i => x.testBit (0 + i)) = List.range n := by
    apply List.filter_eq_self.2
    apply List.length_filter_eq_length_iff.1
    rw [h, List.length_range]
  have hm := (List.filter_eq_self.1 this) i (by simpa using hi)
  simpa using hm
theorem fold_or {l : List PSPhase} : ∀ {x : Int}, U32ok x → (∀ p ∈ l, U32ok p.1) → U32ok (l.foldl (fun s p => bitop .or .u32 s p.1) x) ∧ ∀ j, bitI (l.foldl (fun s p => bitop .or .u32 s p.1) x) j = true → bitI x j = true ∨ ∃ p ∈ l, bitI p.1 j = true := by
  induction l with
  | nil => exact fun {x} hx _ => ⟨hx, fun j h => .inl h⟩
  | cons p l ih =>
    intro x hx hp
    have hpu := hp p (by simp)
    obtain ⟨h1, h2⟩ := ih (x := bitop .or .u32 x p.1) (or_ok hx hpu) fun q hq => hp q (by simp [hq])
    refine ⟨h1, fun j hj => ?_⟩
    rcases h2 j hj with h3 | ⟨q, hq, h4⟩
    · rw [bit_or hx hpu, Bool.or_eq_true] at h3
      exact h3.elim .inl fun h => .inr ⟨p, by simp, h⟩
    · exact .inr ⟨q, by simp [hq], h4⟩
theorem all_phased {s : PSSite} (hx : SFits s) (h : SiteOK s) {j : Int} (j0 : 0 ≤ j) (j1 : j < llen s.2.1) : ∃ k : Int, 0 ≤ k ∧ k < llen s.2.2.2.2.1 ∧ inP s k j = true := by
  obtain ⟨hu, hb⟩ := fold_or (l := s.2.2.2.2.1) (x := 0) ⟨by decide, by decide⟩ fun p hp => (hx.ps p hp).1
  have hc : cnt (allOf s) = llen s.2.1 := h.phased.2
  have n2 := h.shape.n2
  have n1 := h.shape.n1
  have hhigh : ∀ i, llen s.2.1 ≤ i → bitI (allOf s) i = false := fun i hi => by
    apply Bool.eq_false_iff.2
    intro hh
    rcases hb i hh with h0 | ⟨p, hp, hpb⟩
    · simp [bitI] at h0
    · obtain ⟨k, hk⟩ := mem_idx hp
      have := (bit_group h.shape (hx.ps p hp).1 (h.phased.1 k p hk).hi hpb).2
      omega
  obtain ⟨n, hn⟩ : ∃ n : Nat, llen s.2.1 = (n : Int) := ⟨s.2.1.length, rfl⟩
  have hcn : cntN (allOf s).toNat 0 n = n := by
    have h32 : cntN (allOf s).toNat 0 32 = cntN (allOf s).toNat 0 n + cntN (allOf s).toNat (0 + n) (32 - n) := by
      rw [← cntN_add]; congr 1; omega
    have hz : cntN (allOf s).toNat (0 + n) (32 - n) = 0 := cntN_zero fun i hi => by
      have := hhigh ((0 + n + i : Nat) : Int) (by omega)
      unfold bitI at this
      rw [decide_eq_true (by omega : (0 : Int) ≤ ((0 + n + i : Nat) : Int)), Bool.true_and, Int.toNat_natCast] at this
      exact this
    have : (cntN (allOf s).toNat 0 32 : Int) = llen s.2.1 := hc
    omega
  have hbit := cntN_full hcn j.toNat (by omega)
  have hbj : bitI (allOf s) j = true := by unfold bitI; simp [j0, hbit]
  rcases hb j hbj with h0 | ⟨p, hp, hpb⟩
  · simp [bitI] at h0
  · obtain ⟨k, hk⟩ := mem_idx hp
    obtain ⟨k0, k1, _⟩ := idx_some_iff hk
    exact ⟨k, k0, k1, by unfold inP; rw [el_of hk]; exact hpb⟩

/-! # How long a group was not asked, or was -/
structure OffP (s : PSSite) (now : PSSafe) (j a : Int) : Prop where
  a0 : 0 ≤ a
  ended : a ≤ lamp_kept (el now.1 j).2.2
  green : (el now.1 j).1 = 2 → a = 0 ∧ (el s.2.1 j).2.1 ≤ lamp_kept (el now.1 j).2.1
  yellow : (el now.1 j).1 = 3 → a ≤ lamp_kept (el now.1 j).2.1 ∧ a ≤ (el s.2.1 j).2.2
structure OnP (now : PSSafe) (j b : Int) : Prop where
  green : (el now.1 j).1 = 2
  since : b ≤ lamp_kept (el now.1 j).2.1

theorem OffP.weaken {s : PSSite} {now : PSSafe} {j a b : Int} (h : OffP s now j a) (b0 : 0 ≤ b) (hb : b ≤ a) : OffP s now j b where
  a0 := b0
  ended := by have := h.ended; omega
  green := fun e => ⟨by have := (h.green e).1; omega, (h.green e).2⟩
  yellow := fun e => by have := h.yellow e; omega

theorem off_step {s : PSSite} {now : PSSafe} (h : SOK s) (hp : Pl s now) {q j a : Int} (j0 : 0 ≤ j) (j1 : j < llen s.2.1) (hj : inP s q j = false) (ha : a < 1000000) (hO : OffP s now j a) : OffP s (stepV s now q) j (a + 1) := by
  have G := gtick h hp q j0 j1
  have gg := h.grp j _ (idx_el j0 j1)
  rw [hj] at G
  have hr := G.range
  have a0 := hO.a0
  have he := hO.ended
  have w3 : (el now.1 j).1 = 1 ∨ (el now.1 j).1 = 2 ∨ (el now.1 j).1 = 3 := by omega
  have fin : ∀ {w' : PSSeen}, el (stepV s now q).1 j = w' → a + 1 ≤ lamp_kept w'.2.2 → w'.1 ≠ 2 → (w'.1 = 3 → a + 1 ≤ lamp_kept w'.2.1 ∧ a + 1 ≤ (el s.2.1 j).2.2) → OffP s (stepV s now q) j (a + 1) := fun {w'} e h1 h2 h3 =>
    ⟨by omega, by rw [e]; exact h1, fun hh => by rw [e] at hh; exact absurd hh h2, fun hh => by rw [e] at hh ⊢; exact h3 hh⟩
  rcases w3 with e | e | e
  · rcases G.red e with ⟨h1, h2⟩ | ⟨h1, _⟩
    · refine fin rfl ?_ (by omega) (fun hh => by omega)
      rw [h2]; simp only [kept_v, more_v] at *; omega
    · cases h1
  · obtain ⟨h1, h2⟩ := hO.green e
    obtain ⟨k1, k2, k3⟩ := G.greenOff e rfl h2
    refine fin rfl ?_ (by omega) (fun _ => ?_)
    · rw [k3]; simp only [kept_v, more_v] at *; omega
    · rw [k2]; simp only [kept_v] at *; omega
  · obtain ⟨h1, h2⟩ := hO.yellow e
    by_cases c : lamp_kept (el now.1 j).2.1 < (el s.2.1 j).2.2
    · obtain ⟨k1, k2, k3⟩ := G.yellowOn e c
      refine fin rfl ?_ (by omega) (fun _ => ?_)
      · rw [k3]; simp only [kept_v, more_v] at *; omega
      · rw [k2]; simp only [kept_v, more_v] at *; omega
    · obtain ⟨k1, k2⟩ := G.yellowOff e (by omega)
      refine fin rfl ?_ (by omega) (fun hh => by omega)
      rw [k2]; simp only [kept_v, more_v] at *; omega

theorem on_step {s : PSSite} {now : PSSafe} (h : SOK s) (hp : Pl s now) {q j b : Int} (j0 : 0 ≤ j) (j1 : j < llen s.2.1) (hj : inP s q j = true) (hb : b < 1000000) (hO : OnP now j b) : OnP (stepV s now q) j (b + 1) := by
  obtain ⟨k1, k2, _⟩ := (gtick h hp q j0 j1).greenOn hO.green (.inl hj)
  have := hO.since
  exact ⟨k1, by rw [k2]; simp only [kept_v, more_v] at *; omega⟩
theorem on_off {s : PSSite} {now : PSSafe} {j b : Int} (hO : OnP now j b) (hb : (el s.2.1 j).2.1 ≤ b) : OffP s now j 0 where
  a0 := by omega
  ended := by rw [kept_v]; omega
  green := fun _ => ⟨rfl, by have := hO.since; omega⟩
  yellow := fun e => by have := hO.green; omega
/-- behind the tick in which it was seen green, it has been so for a tick -/
theorem on_first {s : PSSite} {now : PSSafe} (h : SOK s) (hp : Pl s now) {q j : Int} (j0 : 0 ≤ j) (j1 : j < llen s.2.1) (hg : (el (stepV s now q).1 j).1 = 2) : OnP (stepV s now q) j 1 := by
  have G := gtick h hp q j0 j1
  have hr := G.range
  have w3 : (el now.1 j).1 = 1 ∨ (el now.1 j).1 = 2 ∨ (el now.1 j).1 = 3 := by omega
  refine ⟨hg, ?_⟩
  rcases w3 with e | e | e
  · rcases G.red e with ⟨h1, _⟩ | ⟨_, _, h2, _⟩
    · omega
    · rw [h2]; simp only [kept_v]; omega
  · by_cases c : inP s q j = true ∨ lamp_kept (el now.1 j).2.1 < (el s.2.1 j).2.1
    · rw [(G.greenOn e c).2.1]; simp only [kept_v, more_v]; omega
    · have := (G.greenOff e (by apply Bool.eq_false_iff.2; exact fun hh => c (.inl hh)) (by omega)).1; omega
  · by_cases c : lamp_kept (el now.1 j).2.1 < (el s.2.1 j).2.2
    · have := (G.yellowOn e c).1; omega
    · have := (G.yellowOff e (by omega)).1; omega
theorem not_yellow_step {s : PSSite} {now : PSSafe} (h : SOK s) (hp : Pl s now) {q j : Int} (j0 : 0 ≤ j) (j1 : j < llen s.2.1) (hj : inP s q j = true) (hn : (el now.1 j).1 ≠ 3) : (el (stepV s now q).1 j).1 ≠ 3 := by
  have G := gtick h hp q j0 j1
  have hr := G.range
  have w3 : (el now.1 j).1 = 1 ∨ (el now.1 j).1 = 2 := by omega
  rcases w3 with e | e
  · rcases G.red e with ⟨h1, _⟩ | ⟨_, h1, _⟩ <;> omega
  · have := (G.greenOn e (.inl hj)).1; omega

/-- a phase that is full behind a tick: no red was to come ahead of it -/
theorem full_prev {s : PSSite} {now : PSSafe} {q : Int} (h : SOK s) (hph : PhP s q) (hG : GoesP s now) (hf : fullP s (stepV s now q) q) : Pl s now := by
  obtain ⟨a, a0, a1, ha⟩ := hph.one
  have h2 := hf a a0 a1 ha
  have hlo := hG.may.st.lo
  by_cases c : now.2.2 = true ∨ 0 < now.2.1
  · exfalso
    rw [el_step hG q a0 a1, nxt_fst] at h2
    unfold admitV at h2
    rw [if_neg (by rw [asks_flash h]; simp), if_pos c] at h2
    have hl := llen_asks s q
    rw [el_of (x := (1 : Int)) (by
      unfold lrep
      rw [idx_nat a0, List.getElem?_replicate, if_pos (by omega)])] at h2
    omega
  · exact ⟨hG, by omega, by apply Bool.eq_false_iff.2; exact fun hh => c (.inl hh)⟩

end Go.Proofs.YtfdnmjabjmedgaaDoor
