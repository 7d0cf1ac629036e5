/- Part of a proof: plain readings of Go functions, their contracts, or plain facts of them. -/
import Derived.Test.YtfdnmjabjmedgaaDoorPlqT
import Derived.Test.YtfdnmjabjmedgaaDoorPlqQ
namespace Go.Proofs.YtfdnmjabjmedgaaDoor
open Go.Den

/-! # The functions of turn, plainly -/
theorem wants_e {s : PSSite} (hs : SFits s) {p i : Int} (p0 : 0 ≤ p) (p1 : p < llen s.2.2.2.2.1) (i0 : 0 ≤ i) (i1 : i ≤ 31) : turn_wants_t (s, (p, i)) = some (inP s p i) := by
  have e := idx_el (l := s.2.2.2.2.1) p0 p1
  unfold turn_wants_t
  rw [elimO_eq _ _ e, cnd_pos _ _ (decide_eq_true i0)]
  show some (bitop .and .u32 (shrop .u32 (el s.2.2.2.2.1 p).1 i) 1 == 1) = _
  rw [andBit (hs.ps _ (idx_some_iff e).2.2).1 i0 i1]
  rfl

theorem asksT_e {s : PSSite} (hs : SFits s) (h : SOK s) {p : Int} (p0 : 0 ≤ p) (p1 : p < llen s.2.2.2.2.1) : turn_asks_t (s, p) = some (asksV s p) := by
  have n1 := h.n1
  have n2 := h.n2
  have hn : 0 ≤ llen s.2.1 := by omega
  unfold turn_asks_t
  rw [cnd_pos _ _ (make_ok hn (by omega))]
  refine iter_up (fun z : Int × List Int => z.1) (llen s.2.1) (fun z => llen z.2 = llen s.2.1 ∧ ∀ j, 0 ≤ j → j < z.1 → idx z.2 j = idx (asksV s p) j) (fun r => r = some (asksV s p)) (by omega) (by simp) hn ⟨llen_lrep hn _, fun j j0 j1 => absurd j1 (by simp only; omega)⟩ (fun z hI i0 i1 => ?_) (fun z hI hz => ?_)
  · obtain ⟨i, out⟩ := z
    obtain ⟨hlen, hj⟩ := hI
    simp only at i0 i1 hlen hj
    obtain ⟨y, hy, _⟩ := idx_get (l := out) i0 (by omega)
    have hset : idx (lset out i 1) i = some 1 := by rw [idx_lset i0 (by omega), if_pos rfl]
    try simp only
    rw [cnd_pos _ _ (decide_eq_true (by rw [llen_lrep hn]; exact i1)), elimO_eq _ _ hy, elimO_eq _ _ hy, elimO_eq _ _ (wants_e hs p0 p1 i0 (by omega)), wr_i64 (i + 1) (by omega) (by omega)]
    have ha := idx_asks (s := s) (p := p) i0 i1
    cases c : inP s p i with
    | true =>
      rw [cnd_pos _ _ rfl, elimO_eq _ _ hset, elimO_eq _ _ hset]
      refine ⟨rfl, by (try simp only); rw [llen_lset, llen_lset]; exact hlen, fun j j0 j1 => ?_⟩
      simp only at j1 ⊢
      rw [idx_lset i0 (by rw [llen_lset]; omega), idx_lset i0 (by omega)]
      split
      · rename_i e; rw [e, ha, c]; rfl
      · exact hj j j0 (by omega)
    | false =>
      rw [cnd_neg _ _ rfl]
      refine ⟨rfl, by (try simp only); rw [llen_lset]; exact hlen, fun j j0 j1 => ?_⟩
      simp only at j1 ⊢
      rw [idx_lset i0 (by omega)]
      split
      · rename_i e; rw [e, ha, c]; rfl
      · exact hj j j0 (by omega)
  · obtain ⟨i, out⟩ := z
    obtain ⟨hlen, hj⟩ := hI
    simp only at hz hlen hj
    try simp only
    rw [cnd_neg _ _ (decide_eq_false (by rw [llen_lrep hn]; omega))]
    have ho : out = asksV s p := idx_ext (by rw [llen_asks]; exact hlen) fun j j0 j1 => hj j j0 (by omega)
    rw [ho]
    exact rfl

def asksR (e : Int) (s : PSSite) (p : Int) : List Int × Int := if e ≠ 0 then ([], e) else if p < 0 ∨ llen s.2.2.2.2.1 ≤ p then ([], 2) else (asksV s p, 0)
theorem Asks_e {s : PSSite} {p e : Int} (hs : SFits s) (hok : e = 0 → SOK s) (hc : site_Check_t s = some e) : turn_Asks_t (s, p) = some (asksR e s p) := by
  unfold turn_Asks_t asksR
  rw [joinPt_app, elimO_eq _ _ hc]
  by_cases h0 : e = 0
  · subst h0
    rw [cnd_neg _ _ (by rfl), cnd_neg _ _ (by rfl), if_neg (by simp)]
    by_cases c : p < 0 ∨ llen s.2.2.2.2.1 ≤ p
    · rw [cnd_pos _ _ (by simpa using c), if_pos c]; rfl
    · rw [cnd_neg _ _ (by simpa using c), if_neg c]
      try simp only
      rw [cnd_neg _ _ (by rfl), elimO_eq _ _ (asksT_e hs (hok rfl) (by omega) (by omega))]
  · rw [cnd_pos _ _ (by simp [h0]), if_pos h0]
    try simp only
    rw [cnd_pos _ _ (by simp [h0])]

open Classical in
noncomputable def fullB (s : PSSite) (now : PSSafe) (p : Int) : Bool := decide (fullP s now p)
theorem fullB_iff {s : PSSite} {now : PSSafe} {p : Int} : fullB s now p = true ↔ fullP s now p := by unfold fullB; simp
theorem fullB_not {s : PSSite} {now : PSSafe} {p : Int} : fullB s now p = false ↔ ¬ fullP s now p := by unfold fullB; simp

theorem full_e {s : PSSite} {now : PSSafe} (hs : SFits s) (h : SOK s) (hw : llen now.1 = llen s.2.1) {p : Int} (p0 : 0 ≤ p) (p1 : p < llen s.2.2.2.2.1) : turn_full_t (s, (now, p)) = some (fullB s now p) := by
  have n2 := h.n2
  unfold turn_full_t
  have conv : (∀ i w, idx now.1 i = some w → (inP s p i = true → w.1 = 2)) ↔ fullP s now p := ⟨fun hh i i0 i1 hi => hh i _ (idx_el i0 (by omega)) hi, fun hh i w hw' hi => by have := hh i (idx_some_iff hw').1 (by have := (idx_some_iff hw').2.1; omega) hi; rwa [el_of hw'] at this⟩
  refine iter_allQ (l := now.1) (fun r => r = some (fullB s now p)) (fun i w => inP s p i = true → w.1 = 2) (some false) (some true) (by unfold llen at hw n2; unfold maxLen; omega) (fun i w i0 i1 hw' => ?_) (fun i hi => by (try simp only); rw [cnd_neg _ _ (decide_eq_false hi)]) (fun hh => by rw [fullB_iff.2 (conv.1 hh)]) (fun hh => by rw [fullB_not.2 (fun hf => hh (conv.2 hf))])
  try simp only
  rw [cnd_pos _ _ (decide_eq_true i1), elimO_eq _ _ hw', elimO_eq _ _ (wants_e hs p0 p1 i0 (by omega))]
  by_cases c : inP s p i = true → w.1 = 2
  · refine .inl ⟨c, cnd_neg _ _ ?_⟩
    cases ci : inP s p i with
    | true => simp [c ci]
    | false => rfl
  · refine .inr ⟨c, cnd_pos _ _ ?_⟩
    have c1 : inP s p i = true := Classical.byContradiction fun hn => c fun hh => absurd hh hn
    rw [c1, Bool.true_and]
    have : w.1 ≠ 2 := fun e => c fun _ => e
    simpa using this

open Classical in
noncomputable def fullR (e : Int) (s : PSSite) (now : PSSafe) (p : Int) : Bool × Int :=
  if e ≠ 0 then (false, e) else if llen now.1 ≠ llen s.2.1 then (false, 8) else if p < 0 ∨ llen s.2.2.2.2.1 ≤ p then (false, 2) else (fullB s now p, 0)
theorem Full_e {s : PSSite} {now : PSSafe} {p e : Int} (hs : SFits s) (hok : e = 0 → SOK s) (hc : site_Check_t s = some e) : turn_Full_t (s, (now, p)) = some (fullR e s now p) := by
  unfold turn_Full_t fullR
  rw [joinPt_app, elimO_eq _ _ hc]
  by_cases h0 : e = 0
  · subst h0
    rw [cnd_neg _ _ (by rfl), if_neg (by simp)]
    by_cases c0 : llen now.1 = llen s.2.1
    · rw [cnd_neg _ _ (by simpa using c0), cnd_neg _ _ (by rfl), if_neg (by simpa using c0)]
      by_cases c : p < 0 ∨ llen s.2.2.2.2.1 ≤ p
      · rw [cnd_pos _ _ (by simpa using c), if_pos c]; rfl
      · rw [cnd_neg _ _ (by simpa using c), if_neg c]
        try simp only
        rw [cnd_pos _ _ (by rfl), elimO_eq _ _ (full_e hs (hok rfl) c0 (by omega) (by omega))]
    · rw [cnd_pos _ _ (by simpa using c0), cnd_pos _ _ (by rfl), if_pos c0]; rfl
  · rw [cnd_pos _ _ (by simp [h0]), if_pos h0]
    try simp only
    rw [cnd_neg _ _ (by simp [h0])]

/-! ## the worst turn -/
def minsTo (s : PSSite) : Nat → Int
  | 0 => 0
  | n + 1 => max (minsTo s n) (el s.2.1 (n : Int)).2.1
def yelsTo (s : PSSite) : Nat → Int
  | 0 => 0
  | n + 1 => max (yelsTo s n) (el s.2.1 (n : Int)).2.2
def leastV (s : PSSite) : Int := minsTo s (llen s.2.1).toNat
def longV (s : PSSite) : Int := max (grt s) (yelsTo s (llen s.2.1).toNat)
def turnV (s : PSSite) : Int := leastV s + longV s + 2

theorem mins_bound {s : PSSite} (h : SOK s) : ∀ n : Nat, (n : Int) ≤ llen s.2.1 → 0 ≤ minsTo s n ∧ minsTo s n ≤ 1048576 ∧ 0 ≤ yelsTo s n ∧ yelsTo s n ≤ 1048576 ∧ ∀ j, 0 ≤ j → j < (n : Int) → (el s.2.1 j).2.1 ≤ minsTo s n ∧ (el s.2.1 j).2.2 ≤ yelsTo s n
  | 0, _ => ⟨by simp [minsTo], by simp [minsTo], by simp [yelsTo], by simp [yelsTo], fun j j0 j1 => by omega⟩
  | n + 1, hn => by
    obtain ⟨a1, a2, a3, a4, a5⟩ := mins_bound h n (by omega)
    have g := h.grp (n : Int) _ (idx_el (by omega) (by omega))
    refine ⟨by rw [minsTo]; omega, by rw [minsTo]; omega, by rw [yelsTo]; omega, by rw [yelsTo]; omega, fun j j0 j1 => ?_⟩
    rw [minsTo, yelsTo]
    by_cases e : j = (n : Int)
    · subst e; omega
    · have := a5 j j0 (by omega); omega

theorem bounds_v {s : PSSite} (h : SOK s) : Bounds s (leastV s) (longV s) := by
  have n1 := h.n1
  have hb := mins_bound h (llen s.2.1).toNat (by omega)
  have hg := grt_is h
  unfold leastV longV
  refine ⟨fun j j0 j1 => (hb.2.2.2.2 j j0 (by omega)).1, fun j j0 j1 => ?_, fun a b a0 a1 b0 b1 hab => ?_⟩
  · have := (hb.2.2.2.2 j j0 (by omega)).2; omega
  · have := hg.all a b a0 a1 b0 b1 hab; omega

theorem turn_in {s : PSSite} (h : SOK s) : 0 ≤ leastV s ∧ leastV s ≤ 1048576 ∧ 0 ≤ longV s ∧ longV s ≤ 1048576 := by
  have n1 := h.n1
  have hb := mins_bound h (llen s.2.1).toNat (by omega)
  have hg := grt_is h
  have := hg.lo; have := hg.hi
  unfold leastV longV
  omega

/-! ## the document's -/
/-! ## a tick of the gate and of the trace -/
theorem tick_e {s : PSSite} {now : PSSafe} {p : Int} (h : SOK s) (hc : site_Check_t s = some 0) (hG : GoesP s now) : gate_Admit_t (s, (now, asksV s p)) = some (admitV s now (asksV s p), 0) ∧ safe_Next_t (s, (now, admitV s now (asksV s p))) = some (stepV s now p, (0, 0)) := by
  have n2 := h.n2
  have hw := hG.may.st.n
  have hl := llen_asks s p
  have hal := llen_admit (s := s) (now := now) hw hl
  have hf := (admit_free h hG hl).1
  constructor
  · rw [gAdmit_e (e := 0) (fun _ => h) hc (by omega)]
    unfold admitR
    rw [if_neg (by simp), if_neg (by simpa using hG), if_neg (by simpa using hl)]
  · rw [safeNext_e (e := 0) (fun _ => h) hc (by omega) (by unfold llen at hal n2; unfold maxLen; omega)]
    unfold safeNextR
    rw [if_neg (by simp), if_neg (by simpa using hG.may), if_neg (by simpa using hf)]
    rfl

theorem goes_step {s : PSSite} {now : PSSafe} (h : SOK s) (hG : GoesP s now) (p : Int) : GoesP s (stepV s now p) := (admit_free h hG (llen_asks s p)).2

end Go.Proofs.YtfdnmjabjmedgaaDoor
