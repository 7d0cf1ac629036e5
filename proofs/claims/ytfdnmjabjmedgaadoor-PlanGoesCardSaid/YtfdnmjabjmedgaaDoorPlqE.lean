/- Part of a proof: plain readings of Go functions, their contracts, or plain facts of them. -/
import Derived.Test.YtfdnmjabjmedgaaDoorPlqN
import Derived.Test.YtfdnmjabjmedgaaDoorPlqY
namespace Go.Proofs.YtfdnmjabjmedgaaDoor
open Go.Den

/-! # What is let through -/
def bw (g : PSGroup) (w : PSSeen) (a : Int) : Int := if w.1 = 1 then 1 else lamp_Want (g, (w, a))
def baseV (gs : List PSGroup) (ws : List PSSeen) (asks : List Int) : List Int := List.zipWith (fun (gw : PSGroup × PSSeen) a => bw gw.1 gw.2 a) (List.zipWith Prod.mk gs ws) asks
theorem base_idx {gs : List PSGroup} {ws : List PSSeen} {asks : List Int} {i : Int} {g : PSGroup} {w : PSSeen} {a : Int} (hg : idx gs i = some g) (hw : idx ws i = some w) (ha : idx asks i = some a) : idx (baseV gs ws asks) i = some (bw g w a) :=
  idx_zipWith (idx_zipWith hg hw) ha
theorem base_len {gs : List PSGroup} {ws : List PSSeen} {asks : List Int} (h1 : llen ws = llen gs) (h2 : llen asks = llen gs) : llen (baseV gs ws asks) = llen gs := by
  unfold baseV
  rw [llen_zipWith (by rw [llen_zipWith h1.symm, h2]), llen_zipWith h1.symm]

/-- a group cannot turn green beside what is let through so far -/
def Blk (s : PSSite) (ws : List PSSeen) (out : List Int) (i : Int) : Prop := ∃ k, 0 ≤ k ∧ k < llen ws ∧ apartB s i k = true ∧ (el out k ≠ 1 ∨ (el ws k).2.2 < betw s k i)
def Turns (s : PSSite) (ws : List PSSeen) (asks out : List Int) (i : Int) : Prop := (el ws i).1 = 1 ∧ el asks i = 2 ∧ ¬ Blk s ws out i
open Classical in
noncomputable def pass (s : PSSite) (ws : List PSSeen) (asks : List Int) : Nat → Int → List Int → List Int
  | 0, _, out => out
  | k + 1, i, out => pass s ws asks k (i + 1) (if Turns s ws asks out i then lset out i 2 else out)

open Classical in
noncomputable def admitV (s : PSSite) (now : PSSafe) (asks : List Int) : List Int :=
  if flashB asks = true then asks else if now.2.2 = true ∨ 0 < now.2.1 then lrep (llen asks) 1 else pass s now.1 asks (llen asks).toNat 0 (baseV s.2.1 now.1 asks)

theorem gall_e {n v : Int} (h0 : 0 ≤ n) (h1 : n ≤ 100000) : gate_all_t (n, v) = some (lrep n v) := by
  unfold gate_all_t
  rw [cnd_pos _ _ (make_ok h0 (by omega))]
  refine iter_up (fun z : Int × List Int => z.1) n (fun z => llen z.2 = n ∧ ∀ j, 0 ≤ j → j < z.1 → idx z.2 j = some v) (fun r => r = some (lrep n v)) (by omega) (by simp) h0 ⟨llen_lrep h0 _, fun j j0 j1 => absurd j1 (by simp only; omega)⟩ (fun z hI i0 i1 => ?_) (fun z hI hz => ?_)
  · obtain ⟨i, out⟩ := z
    obtain ⟨hlen, hj⟩ := hI
    simp only at i0 i1 hlen hj
    obtain ⟨y, hy, _⟩ := idx_get (l := out) i0 (by omega)
    try simp only
    rw [cnd_pos _ _ (decide_eq_true (by rw [llen_lrep h0]; exact i1)), elimO_eq _ _ hy, elimO_eq _ _ hy, wr_i64 (i + 1) (by omega) (by omega)]
    refine ⟨rfl, by (try simp only); rw [llen_lset]; exact hlen, fun j j0 j1 => ?_⟩
    simp only at j1 ⊢
    rw [idx_lset i0 (by omega)]
    split
    · rfl
    · exact hj j j0 (by omega)
  · obtain ⟨i, out⟩ := z
    obtain ⟨hlen, hj⟩ := hI
    simp only at hz hlen hj
    try simp only
    rw [cnd_neg _ _ (decide_eq_false (by rw [llen_lrep h0]; omega))]
    have ho : out = lrep n v := idx_ext (by rw [llen_lrep h0]; exact hlen) fun j j0 j1 => by rw [hj j j0 (by omega), idx_lrep j0 (by omega)]
    rw [ho]
    exact rfl

theorem clone_u8_e {l : List Int} (hl : llen l ≤ 100000) : clone_U8_t l = some l := by
  unfold clone_U8_t
  rw [cnd_pos _ _ (by rw [Bool.true_and]; exact room_le (by omega))]
  rfl

theorem el_lset {l : List Int} {i : Int} (h0 : 0 ≤ i) (h1 : i < llen l) (x j : Int) : el (lset l i x) j = if j = i then x else el l j := by
  unfold el
  rw [idx_lset h0 h1]
  split <;> rfl
theorem el_of {α : Type} [Inhabited α] {l : List α} {i : Int} {x : α} (h : idx l i = some x) : el l i = x := by unfold el; rw [h]; rfl

/-- the second pass, as a loop -/
theorem pass_loop {s : PSSite} {ws : List PSSeen} {asks base : List Int} {A : Type} {bad : A} {F : Int × List Int → Step (Int × List Int) A} (P : A → Prop) (hb : llen base = llen asks) (hn : llen asks ≤ 1000)
    (hF : ∀ i out, 0 ≤ i → i < llen asks → llen out = llen asks → (Turns s ws asks out i → F (i, out) = .next (i + 1, lset out i 2)) ∧ (¬ Turns s ws asks out i → F (i, out) = .next (i + 1, out)))
    (hK : ∃ r, F (llen asks, pass s ws asks (llen asks).toNat 0 base) = .done r ∧ P r) : P (iter bad F lots (0, base)) := by
  refine iter_up (fun z : Int × List Int => z.1) (llen asks) (fun z => llen z.2 = llen asks ∧ pass s ws asks (llen asks - z.1).toNat z.1 z.2 = pass s ws asks (llen asks).toNat 0 base) P (by omega) (by simp) (llen_nonneg asks) ⟨hb, by simp only; rw [Int.sub_zero]⟩ (fun z hI i0 i1 => ?_) (fun z hI hz => ?_)
  · obtain ⟨i, out⟩ := z
    obtain ⟨hlen, hp⟩ := hI
    simp only at i0 i1 hlen hp
    rw [show (llen asks - i).toNat = (llen asks - (i + 1)).toNat + 1 by omega, pass] at hp
    obtain ⟨h1, h2⟩ := hF i out i0 i1 hlen
    by_cases c : Turns s ws asks out i
    · rw [h1 c]
      rw [if_pos c] at hp
      exact ⟨rfl, by (try simp only); rw [llen_lset]; exact hlen, hp⟩
    · rw [h2 c]
      rw [if_neg c] at hp
      exact ⟨rfl, hlen, hp⟩
  · obtain ⟨i, out⟩ := z
    obtain ⟨hlen, hp⟩ := hI
    simp only at hz hlen hp
    subst hz
    rw [Int.sub_self] at hp
    have hp : out = _ := hp
    obtain ⟨r, hr, hr2⟩ := hK
    rw [hp, hr]
    exact hr2

theorem flash_join {A : Type} {bad : A} {asks : List Int} (hlm : asks.length ≤ maxLen) (K : Bool → A) : joinPt K (fun k => iter bad (fun x1 : Int =>
(cnd (decide (x1 < (llen asks)))
(elimO (idx asks x1) (.done bad) (fun x2 =>
(cnd (!(x2 == 4))
(.done (k (!(decide (0 ≤ x1)))))
(.next (wr .i64 (x1 + 1))))))
(.done (k (!(decide (0 ≤ (-1 : Int)))))))) lots 0) = K (flashB asks) := by
  rw [joinPt_app]
  have conv : (∀ a ∈ asks, a = 4) ↔ (∀ (i : Int) a, idx asks i = some a → a = 4) := ⟨fun h i a ha => h a (idx_some_iff ha).2.2, fun h a ha => by obtain ⟨i, hi⟩ := mem_idx ha; exact h i a hi⟩
  refine iter_allQ (l := asks) (fun r : A => r = K (flashB asks)) (fun _ a => a = 4) (K false) (K true) hlm (fun i a h0 hi ha => ?_) (fun i hi => by (try simp only); rw [cnd_neg _ _ (decide_eq_false hi)]; rfl) (fun h => by unfold flashB; rw [decide_eq_true (conv.2 h)]) (fun h => by unfold flashB; rw [decide_eq_false (fun hh => h (conv.1 hh))])
  try simp only
  rw [cnd_pos _ _ (decide_eq_true hi), elimO_eq _ _ ha]
  by_cases c : a = 4
  · exact .inl ⟨c, by rw [cnd_neg _ _ (by simp [c])]⟩
  · exact .inr ⟨c, by rw [cnd_pos _ _ (by simp [c]), decide_eq_true h0]; rfl⟩

theorem admit_e {s : PSSite} {now : PSSafe} {asks : List Int} (h : SOK s) (hw : llen now.1 = llen s.2.1) (hl : llen asks = llen s.2.1) : gate_admit_t (s, (now, asks)) = some (admitV s now asks) := by
  have n1 := h.n1
  have n2 := h.n2
  have hlm : asks.length ≤ maxLen := by unfold llen at hl n2; unfold maxLen; omega
  unfold gate_admit_t admitV
  refine (flash_join hlm _).trans ?_
  try simp only
  by_cases c1 : flashB asks = true
  · rw [cnd_pos _ _ c1, if_pos c1, elimO_eq _ _ (clone_u8_e (by omega))]
  rw [cnd_neg _ _ (Bool.eq_false_iff.2 c1), if_neg c1]
  by_cases c2 : now.2.2 = true
  · rw [cnd_pos _ _ c2, if_pos (.inl c2), elimO_eq _ _ (gall_e (by omega) (by omega))]
  rw [cnd_neg _ _ (Bool.eq_false_iff.2 c2)]
  by_cases c3 : 0 < now.2.1
  · rw [cnd_pos _ _ (decide_eq_true c3), if_pos (.inr c3), elimO_eq _ _ (gall_e (by omega) (by omega))]
  rw [cnd_neg _ _ (decide_eq_false c3), if_neg (fun hh => hh.elim c2 c3), elimO_eq _ _ (gall_e (by omega) (by omega))]
  have hbl := base_len (gs := s.2.1) (ws := now.1) (asks := asks) hw hl
  refine iter_up (fun z : Int × List Int => z.1) (llen now.1) (fun z => llen z.2 = llen asks ∧ (∀ j, 0 ≤ j → j < z.1 → idx z.2 j = idx (baseV s.2.1 now.1 asks) j) ∧ ∀ j, z.1 ≤ j → j < llen asks → idx z.2 j = some 1) (fun r => r = some _) (by omega) (by simp) (llen_nonneg _) ⟨llen_lrep (by omega) _, fun j j0 j1 => absurd j1 (by simp only; omega), fun j j0 j1 => idx_lrep j0 j1 _⟩ (fun z hI i0 i1 => ?_) (fun z hI hz => ?_)
  · obtain ⟨i, out⟩ := z
    obtain ⟨hlen, hj, hk⟩ := hI
    simp only at i0 i1 hlen hj hk
    obtain ⟨w, hw', _⟩ := idx_get i0 i1
    obtain ⟨g, hg, _⟩ := idx_get (l := s.2.1) i0 (by omega)
    obtain ⟨a, ha, _⟩ := idx_get (l := asks) i0 (by omega)
    have hbi := base_idx hg hw' ha
    have ho := hk i (Int.le_refl _) (by omega)
    try simp only
    rw [cnd_pos _ _ (decide_eq_true i1), elimO_eq _ _ hw', wr_i64 (i + 1) (by omega) (by omega)]
    by_cases c : w.1 = 1
    · rw [cnd_neg _ _ (by simp [c])]
      refine ⟨rfl, hlen, fun j j0 j1 => ?_, fun j j0 j1 => hk j (by simp only at j0; omega) j1⟩
      simp only at j1 ⊢
      by_cases e : j = i
      · rw [e, ho, hbi, bw, if_pos c]
      · exact hj j j0 (by omega)
    · rw [cnd_pos _ _ (by simpa using c), elimO_eq _ _ hg, elimO_eq _ _ ha, letK_app, elimO_eq _ _ ho, elimO_eq _ _ ho]
      refine ⟨rfl, by (try simp only); rw [llen_lset]; exact hlen, fun j j0 j1 => ?_, fun j j0 j1 => ?_⟩
      · simp only at j1 ⊢
        rw [idx_lset i0 (by omega)]
        split
        · rename_i e; rw [e, hbi, bw, if_neg c]
        · exact hj j j0 (by omega)
      · simp only at j0 ⊢
        rw [idx_lset i0 (by omega), if_neg (by omega)]
        exact hk j (by omega) j1
  · obtain ⟨i, out⟩ := z
    obtain ⟨hlen, hj, _⟩ := hI
    simp only at hz hlen hj
    try simp only
    rw [cnd_neg _ _ (decide_eq_false (by omega))]
    have hob : out = baseV s.2.1 now.1 asks := idx_ext (by rw [hlen, hbl, hl]) fun j j0 j1 => hj j j0 (by omega)
    rw [hob]
    refine pass_loop (s := s) (ws := now.1) (asks := asks) (fun r => r = some _) (by rw [hbl, hl]) (by omega) (fun i out i0 i1 hlo => ?_) ⟨_, cnd_neg _ _ (decide_eq_false (by simp only; omega)), rfl⟩
    obtain ⟨w, hw', _⟩ := idx_get (l := now.1) i0 (by omega)
    obtain ⟨a, ha, _⟩ := idx_get (l := asks) i0 i1
    obtain ⟨o, ho, _⟩ := idx_get (l := out) i0 (by omega)
    obtain ⟨u, hu, _⟩ := idx_get (l := s.2.2.1) i0 (by rw [h.la]; omega)
    try simp only
    rw [cnd_pos _ _ (decide_eq_true (by omega)), elimO_eq _ _ hw', wr_i64 (i + 1) (by omega) (by omega)]
    have ew : el now.1 i = w := el_of hw'
    have ea : el asks i = a := el_of ha
    by_cases d1 : w.1 = 1
    · rw [cnd_pos _ _ (by simpa using d1), elimO_eq _ _ ha]
      by_cases d2 : a = 2
      · rw [cnd_pos _ _ (by simpa using d2)]
        have hin : ∀ R : Step (Int × List Int) (Option (List Int)), (Blk s now.1 out i → R = .next (i + 1, out)) → (¬ Blk s now.1 out i → R = .next (i + 1, lset out i 2)) → (Turns s now.1 asks out i → R = .next (i + 1, lset out i 2)) ∧ (¬ Turns s now.1 asks out i → R = .next (i + 1, out)) := fun R h1 h2 => ⟨fun ht => h2 ht.2.2, fun hnt => h1 (Classical.byContradiction fun hb => hnt ⟨by rw [ew]; exact d1, by rw [ea]; exact d2, hb⟩)⟩
        refine iter_up (fun z : Int × List Int => z.1) (llen now.1) (fun z => z.2 = out ∧ ∀ k, 0 ≤ k → k < z.1 → ¬ (apartB s i k = true ∧ (el out k ≠ 1 ∨ (el now.1 k).2.2 < betw s k i))) (fun (R : Step (Int × List Int) (Option (List Int))) => (Turns s now.1 asks out i → R = .next (i + 1, lset out i 2)) ∧ (¬ Turns s now.1 asks out i → R = .next (i + 1, out))) (by omega) (by simp) (llen_nonneg _) ⟨rfl, fun k k0 k1 => absurd k1 (by simp only; omega)⟩ (fun z hI k0 k1 => ?_) (fun z hI hz => ?_)
        · obtain ⟨k, o'⟩ := z
          obtain ⟨hoo, hno⟩ := hI
          simp only at hoo hno k0 k1
          subst hoo
          obtain ⟨v, hv, _⟩ := idx_get (l := now.1) k0 k1
          obtain ⟨ok, hok, _⟩ := idx_get (l := o') k0 (by omega)
          try simp only
          rw [cnd_pos _ _ (decide_eq_true k1), elimO_eq _ _ hv, elimO_eq _ _ hu, cnd_pos _ _ (decide_eq_true k0), andBit (h.us i _ hu) k0 (by omega)]
          have hap : bitI u k = apartB s i k := by unfold apartB; rw [el_of hu]
          rw [hap, wr_i64 (k + 1) (by omega) (by omega)]
          have next : ¬ (apartB s i k = true ∧ (el o' k ≠ 1 ∨ (el now.1 k).2.2 < betw s k i)) → UpRound (fun z : Int × List Int => z.1) (fun z => z.2 = o' ∧ ∀ k, 0 ≤ k → k < z.1 → ¬ (apartB s i k = true ∧ (el o' k ≠ 1 ∨ (el now.1 k).2.2 < betw s k i))) (fun (R : Step (Int × List Int) (Option (List Int))) => (Turns s now.1 asks o' i → R = .next (i + 1, lset o' i 2)) ∧ (¬ Turns s now.1 asks o' i → R = .next (i + 1, o'))) k (.next (k + 1, o') : Step (Int × List Int) (Step (Int × List Int) (Option (List Int)))) := fun hn => ⟨rfl, rfl, fun j j0 j1 => by
            simp only at j1
            by_cases e : j = k
            · rw [e]; exact hn
            · exact hno j j0 (by omega)⟩
          have stop : apartB s i k = true ∧ (el o' k ≠ 1 ∨ (el now.1 k).2.2 < betw s k i) → UpRound (fun z : Int × List Int => z.1) (fun z => z.2 = o' ∧ ∀ k, 0 ≤ k → k < z.1 → ¬ (apartB s i k = true ∧ (el o' k ≠ 1 ∨ (el now.1 k).2.2 < betw s k i))) (fun (R : Step (Int × List Int) (Option (List Int))) => (Turns s now.1 asks o' i → R = .next (i + 1, lset o' i 2)) ∧ (¬ Turns s now.1 asks o' i → R = .next (i + 1, o'))) k (.done (.next (i + 1, o')) : Step (Int × List Int) (Step (Int × List Int) (Option (List Int)))) := fun hb => hin _ (fun _ => rfl) (fun hnb => absurd ⟨k, k0, k1, hb⟩ hnb)
          cases hab : apartB s i k with
          | false => rw [cnd_neg _ _ rfl]; exact next (fun hh => by rw [hab] at hh; cases hh.1)
          | true =>
            rw [cnd_pos _ _ rfl, elimO_eq _ _ hok, elimO_eq _ _ hok]
            by_cases d3 : ok = 1
            · have hrow := idx_el (l := s.2.2.2.1) k0 (by rw [h.lb]; omega)
              have hbt := idx_el (l := el s.2.2.2.1 k) i0 (by rw [h.rows k _ hrow]; omega)
              rw [cnd_neg _ _ (by simp [d3]), elimO_eq _ _ hrow, elimO_eq _ _ hbt]
              have hbe : el (el s.2.2.2.1 k) i = betw s k i := rfl
              rw [hbe]
              by_cases d4 : v.2.2 < betw s k i
              · rw [cnd_pos _ _ (decide_eq_true d4)]
                exact stop ⟨hab, .inr (by rw [el_of hv]; exact d4)⟩
              · rw [cnd_neg _ _ (decide_eq_false d4)]
                exact next fun hh => hh.2.elim (fun h => h (by rw [el_of hok]; exact d3)) (fun h => d4 (by rw [el_of hv] at h; exact h))
            · rw [cnd_pos _ _ (by simpa using d3)]
              exact stop ⟨hab, .inl (by rw [el_of hok]; exact d3)⟩
        · obtain ⟨k, o'⟩ := z
          obtain ⟨hoo, hno⟩ := hI
          simp only at hoo hno hz
          subst hoo
          try simp only
          rw [cnd_neg _ _ (decide_eq_false (by omega)), elimO_eq _ _ ho, elimO_eq _ _ ho]
          exact hin _ (fun ⟨k', q0, q1, q2⟩ => absurd q2 (hno k' q0 (by omega))) (fun _ => rfl)
      · rw [cnd_neg _ _ (by simpa using d2)]
        exact ⟨fun ht => absurd (by rw [← ea]; exact ht.2.1) d2, fun _ => rfl⟩
    · rw [cnd_neg _ _ (by simpa using d1)]
      exact ⟨fun ht => absurd (by rw [← ew]; exact ht.1) d1, fun _ => rfl⟩

end Go.Proofs.YtfdnmjabjmedgaaDoor
