/- Part of a proof: plain readings of Go functions, their contracts, or plain facts of them. -/
import Derived.Test.YtdgiapeofmlecaaGreatDoorTrgL
import Derived.Test.YtdgiapeofmlecaaGreatDoorTrgR
namespace Go.Proofs.YtdgiapeofmlecaaGreatDoor
open Go.Den

/-! # The document's look at traces -/
theorem iter_done {σ A : Type} {bad a : A} {f : σ → Step σ A} {s : σ} (h : f s = .done a) : iter bad f lots s = a := by
  have e : lots = 18446744073709551615 + 1 := rfl
  rw [e]
  unfold iter
  rw [h]

theorem refApart8_e {s : PSSite} (h : SOK s) {a b : Int} (a0 : 0 ≤ a) (a1 : a < llen s.2.1) (b0 : 0 ≤ b) (b1 : b < llen s.2.1) : ref08_Apart_t (s, (a, b)) = some (apartB s a b) := by
  have n2 := h.n2
  have e := idx_el (l := s.2.2.1) a0 (by rw [h.la]; exact a1)
  unfold ref08_Apart_t
  rw [elimO_eq _ _ e, wr_u64i b0 (by omega), andBit (h.us a _ e) b0 (by omega)]
  rfl
theorem refBetween8_e {s : PSSite} (h : SOK s) {a b : Int} (a0 : 0 ≤ a) (a1 : a < llen s.2.1) (b0 : 0 ≤ b) (b1 : b < llen s.2.1) : ref08_Between_t (s, (a, b)) = some (betw s a b) := by
  have e := idx_el (l := s.2.2.2.1) a0 (by rw [h.lb]; exact a1)
  unfold ref08_Between_t
  rw [elimO_eq _ _ e, elimO_eq _ _ (idx_el b0 (by rw [h.rows a _ e]; exact b1))]
  rfl

theorem refGreat8_e {s : PSSite} (h : SOK s) : ref08_Great_t s = some (grt s) := by
  have key : ∃ m, ref08_Great_t s = some m ∧ GrtIs s m := by
    unfold ref08_Great_t
    refine great_gen h (F := _) (B := fun a x2 => (cnd (decide (x2.2 < (llen s.2.1)))
(elimO (ref08_Apart_t (s, (a, x2.2))) (.done (.done none)) (fun x3 =>
(cnd x3
(elimO (ref08_Between_t (s, (a, x2.2))) (.done (.done none)) (fun x4 =>
(cnd (decide (x2.1 < x4))
(elimO (ref08_Between_t (s, (a, x2.2))) (.done (.done none)) (fun x5 =>
(.next (x5, (wr .i64 (x2.2 + 1))))))
(.next (x2.1, (wr .i64 (x2.2 + 1)))))))
(.next (x2.1, (wr .i64 (x2.2 + 1)))))))
(.done (.next (x2.1, (wr .i64 (a + 1))))))) (fun m a a0 a1 => by (try simp only); rw [cnd_pos _ _ (decide_eq_true a1)]) (fun m => by (try simp only); rw [cnd_neg _ _ (decide_eq_false (by omega))]) (fun m a b a0 a1 b0 b1 => ?_) (fun m a a0 a1 => by (try simp only); rw [cnd_neg _ _ (decide_eq_false (by omega))])
    try simp only
    rw [cnd_pos _ _ (decide_eq_true b1), elimO_eq _ _ (refApart8_e h a0 a1 b0 b1)]
    cases c : apartB s a b with
    | true =>
      rw [cnd_pos _ _ rfl, elimO_eq _ _ (refBetween8_e h a0 a1 b0 b1), elimO_eq _ _ (refBetween8_e h a0 a1 b0 b1), if_pos rfl]
      by_cases c2 : m < betw s a b
      · rw [cnd_pos _ _ (decide_eq_true c2), Int.max_eq_right (by omega)]
      · rw [cnd_neg _ _ (decide_eq_false c2), Int.max_eq_left (by omega)]
    | false => rw [cnd_neg _ _ rfl, if_neg (by simp)]
  obtain ⟨m, h1, h2⟩ := key
  rw [h1, grt_unique h2 (grt_is h)]

def cnt4 (l : List Int) : Int := ((l.filter fun a => a == 4).length : Nat)
theorem cnt4_all (l : List Int) : (cnt4 l == llen l) = flashB l := by
  unfold cnt4 llen flashB
  apply Bool.eq_iff_iff.2
  rw [beq_iff_eq, decide_eq_true_eq, Int.ofNat_inj, List.length_filter_eq_length_iff]
  simp
theorem cnt4_pos (l : List Int) : 0 < cnt4 l ↔ 4 ∈ l := by
  unfold cnt4
  rw [show (0 < ((l.filter fun a => a == 4).length : Int)) ↔ 0 < (l.filter fun a => a == 4).length by omega, List.length_pos_iff_exists_mem]
  simp
theorem flashes_e {l : List Int} (hl : l.length ≤ maxLen) : ref08_flashes_t l = some (cnt4 l) := by
  have hm : llen l ≤ 9223372036854775807 := maxLen_i64 hl
  unfold ref08_flashes_t
  refine iter_up (fun z : Int × Int => z.2) (llen l) (fun z => z.1 = cnt4 (l.take z.2.toNat)) (fun r => r = some (cnt4 l)) (by omega) (by simp) (llen_nonneg l) rfl (fun z hI i0 i1 => ?_) (fun z hI hz => ?_)
  · obtain ⟨n, i⟩ := z
    simp only at hI i0 i1
    obtain ⟨a, ha, _⟩ := idx_get i0 i1
    have ht : cnt4 (l.take (i + 1).toNat) = cnt4 (l.take i.toNat) + if a = 4 then 1 else 0 := by
      have h1 : l[i.toNat]? = some a := by rw [← idx_nat i0]; exact ha
      rw [show (i + 1).toNat = i.toNat + 1 by omega, List.take_add_one, h1]
      unfold cnt4
      rw [List.filter_append, List.length_append]
      by_cases c : a = 4 <;> simp [c]
    have hle : cnt4 (l.take i.toNat) ≤ i := by
      unfold cnt4
      have := List.length_filter_le (fun a => a == 4) (l.take i.toNat)
      have := List.length_take_le i.toNat l
      omega
    have h0 : 0 ≤ cnt4 (l.take i.toNat) := by unfold cnt4; omega
    try simp only
    rw [cnd_pos _ _ (decide_eq_true i1), elimO_eq _ _ ha, wr_i64 (i + 1) (by omega) (by omega), hI, wr_i64 (cnt4 (l.take i.toNat) + 1) (by omega) (by omega)]
    by_cases c : a = 4
    · rw [cnd_pos _ _ (by simpa using c)]
      exact ⟨rfl, by (try simp only); rw [ht, if_pos c]⟩
    · rw [cnd_neg _ _ (by simpa using c)]
      exact ⟨rfl, by (try simp only); rw [ht, if_neg c]; omega⟩
  · obtain ⟨n, i⟩ := z
    simp only at hI hz
    subst hz
    try simp only
    rw [cnd_neg _ _ (decide_eq_false (by omega))]
    show some n = _
    rw [hI, List.take_of_length_le (by unfold llen; omega)]

theorem refMeet8_e {s : PSSite} {l : List Int} (h : SOK s) (hl : llen l = llen s.2.1) : ∃ r, ref08_meet_t (s, l) = some r ∧ (r = true ↔ MeetP s l) := by
  have n2 := h.n2
  unfold ref08_meet_t
  refine pairs_gen (llen l) (fun a => a) (fun a b => ∃ x y, idx l a = some x ∧ idx l b = some y ∧ x ≠ 1 ∧ y ≠ 1 ∧ apartB s a b = true) (some true) (some false) (fun r => ∃ b, r = some b ∧ (b = true ↔ MeetP s l)) (bad2 := .done none) (B := fun x1 x2 => (cnd (decide (x2 < x1))
(elimO (idx l x1) (.done (.done none)) (fun x3 =>
(cnd (!(x3 == 1))
(elimO (idx l x2) (.done (.done none)) (fun x4 =>
(cnd (!(x4 == 1))
(elimO (ref08_Apart_t (s, (x1, x2))) (.done (.done none)) (fun x5 =>
(cnd x5
(.done (.done (some true)))
(.next (wr .i64 (x2 + 1))))))
(.next (wr .i64 (x2 + 1))))))
(.next (wr .i64 (x2 + 1))))))
(.done (.next (wr .i64 (x1 + 1)))))) (llen_nonneg l) (by omega) (fun a a0 a1 => ⟨a0, by omega⟩) (fun a a0 a1 => .inr ⟨by (try simp only); rw [cnd_pos _ _ (decide_eq_true a1)], fun b b0 b1 => ?_⟩) (by (try simp only); rw [cnd_neg _ _ (decide_eq_false (by omega))]) (fun a a0 a1 => by (try simp only); rw [cnd_neg _ _ (decide_eq_false (by omega))]) (fun ⟨a, b, a0, a1, b0, b1, x, y, q⟩ => ⟨true, rfl, fun _ => ⟨a, b, x, y, b1, q⟩, fun _ => rfl⟩) (fun hno => ⟨false, rfl, fun h => (by cases h), fun ⟨a, b, x, y, q0, q1, q2, q3⟩ => absurd ⟨x, y, q1, q2, q3⟩ (hno a b (idx_some_iff q1).1 (idx_some_iff q1).2.1 (idx_some_iff q2).1 q0)⟩)
  obtain ⟨x, hx, _⟩ := idx_get a0 a1
  obtain ⟨y, hy, _⟩ := idx_get (l := l) b0 (by omega)
  rw [cnd_pos _ _ (decide_eq_true b1), elimO_eq _ _ hx]
  by_cases c : x = 1
  · rw [cnd_neg _ _ (by simp [c])]
    exact .inr ⟨fun ⟨x', y', q1, q2, q3, _⟩ => by rw [hx] at q1; cases q1; exact q3 c, rfl⟩
  · rw [cnd_pos _ _ (by simpa using c), elimO_eq _ _ hy]
    by_cases c2 : y = 1
    · rw [cnd_neg _ _ (by simp [c2])]
      exact .inr ⟨fun ⟨x', y', q1, q2, q3, q4, _⟩ => by rw [hy] at q2; cases q2; exact q4 c2, rfl⟩
    · rw [cnd_pos _ _ (by simpa using c2), elimO_eq _ _ (refApart8_e h a0 (by omega) b0 (by omega))]
      cases c3 : apartB s a b with
      | true => rw [cnd_pos _ _ rfl]; exact .inl ⟨⟨x, y, hx, hy, c, c2, rfl⟩, rfl⟩
      | false =>
        rw [cnd_neg _ _ rfl]
        exact .inr ⟨fun ⟨_, _, _, _, _, _, q⟩ => (by cases q), rfl⟩

theorem kept_eq (n : Int) : ref07_Kept n = lamp_kept n := by
  unfold ref07_Kept lamp_kept
  rw [gmin_eq, gmax_eq, cnd_if, cnd_if]
  simp only [decide_eq_true_eq]
  repeat' split
  all_goals omega
theorem kept_in (n : Int) : 0 ≤ lamp_kept n ∧ lamp_kept n ≤ 1048576 := by
  unfold lamp_kept; rw [gmin_eq, gmax_eq]; omega
theorem more_eq (n : Int) : ref07_more n = lamp_more n := by
  have := kept_in n
  unfold ref07_more lamp_more
  simp only [letK, kept_eq]
  by_cases c : lamp_kept n < 1048576
  · rw [cnd_pos _ _ (decide_eq_true c), wr_i64 (lamp_kept n + 1) (by omega) (by omega)]
    show _ = gmin (gmax _ 0) 1048576
    rw [gmin_eq, gmax_eq]; omega
  · rw [cnd_neg _ _ (decide_eq_false c), wr_i64 (lamp_kept n + 1) (by omega) (by omega)]
    show _ = gmin (gmax _ 0) 1048576
    rw [gmin_eq, gmax_eq]; omega
theorem refNxt (w : PSSeen) (a : Int) : ref07_Next (w, a) = nxt w a := by
  unfold ref07_Next nxt lamp_Next
  simp only [letK, more_eq]
  by_cases c : w.1 = a
  · rw [cnd_pos (b := w.1 == a) _ _ (by simpa using c), cnd_pos (b := a == w.1) _ _ (by simpa using c.symm)]
  · rw [cnd_neg (b := w.1 == a) _ _ (by simpa using c), cnd_neg (b := a == w.1) _ _ (by simpa using fun h => c (Eq.symm h))]

theorem refBehind8_e {s : PSSite} {now : PSSafe} {l : List Int} (h : SOK s) (hs : StOK s now) (hl : llen l = llen s.2.1) : ref08_Behind_t (s, (now, l)) = some (behindV s now l) := by
  have n2 := h.n2
  have hwn := hs.n
  have s1 := hs.lo; have s2 := hs.hi
  have g := grt_is h
  have g1 := g.lo; have g2 := g.hi
  have hlm : l.length ≤ maxLen := by unfold llen at hl n2; unfold maxLen; omega
  unfold ref08_Behind_t
  rw [elimO_eq _ _ (flashes_e hlm), cnt4_all]
  refine iter_up (fun z : Int × Unit × List PSSeen × Int × Bool => z.1) (llen l) (fun z => llen z.2.2.1 = z.1 ∧ (∀ j, 0 ≤ j → j < z.1 → idx z.2.2.1 j = idx (List.zipWith nxt now.1 l) j) ∧ z.2.2.2 = (0, flashB l)) (fun r => r = some (behindV s now l)) (by omega) (by simp) (llen_nonneg l) ⟨rfl, fun j j0 j1 => absurd j1 (by simp only; omega), rfl⟩ (fun z hI i0 i1 => ?_) (fun z hI hz => ?_)
  · obtain ⟨i, u, out, m, f⟩ := z
    obtain ⟨hlen, hj, hmf⟩ := hI
    simp only at i0 i1 hlen hj hmf
    obtain ⟨w, hw', _⟩ := idx_get (l := now.1) i0 (by omega)
    obtain ⟨a, ha, _⟩ := idx_get (l := l) i0 i1
    try simp only
    rw [cnd_pos _ _ (decide_eq_true i1), elimO_eq _ _ hw', elimO_eq _ _ ha, letK_app, refNxt, cnd_pos _ _ (room_snoc (by omega)), wr_i64 (i + 1) (by omega) (by omega)]
    refine ⟨rfl, by (try simp only); rw [llen_snoc]; omega, fun j j0 j1 => ?_, hmf⟩
    simp only at j1 ⊢
    by_cases e : j = i
    · subst e
      rw [idx_zipWith hw' ha, ← hlen, idx_snoc]
    · rw [idx_append j0, if_pos (by omega)]
      exact hj j j0 (by omega)
  · obtain ⟨i, u, out, m, f⟩ := z
    obtain ⟨hlen, hj, hmf⟩ := hI
    simp only at hz hlen hj hmf
    cases hmf
    try simp only
    rw [cnd_neg _ _ (decide_eq_false (by omega)), joinPt_app]
    have ho : out = List.zipWith nxt now.1 l := idx_ext (by rw [llen_zipWith (by rw [hwn, hl])]; omega) fun j j0 j1 => hj j j0 (by omega)
    subst ho
    simp only [refGreat8_e h]
    unfold behindV
    cases c : flashB l with
    | true =>
      cases c2 : now.2.2 with
      | true =>
        show cnd (decide (0 < grt s)) (some (List.zipWith nxt now.1 l, (grt s, true))) (some (List.zipWith nxt now.1 l, (grt s, true))) = some (List.zipWith nxt now.1 l, (grt s, true))
        cases decide (0 < grt s) <;> rfl
      | false =>
        show cnd (decide (0 < now.2.1)) (some (List.zipWith nxt now.1 l, (grt s, true))) (some (List.zipWith nxt now.1 l, (grt s, true))) = some (List.zipWith nxt now.1 l, (grt s, true))
        cases decide (0 < now.2.1) <;> rfl
    | false =>
      cases c2 : now.2.2 with
      | true =>
        show cnd (decide (0 < grt s)) (some (List.zipWith nxt now.1 l, (wr .i64 (grt s - 1), false))) (some (List.zipWith nxt now.1 l, (0, false))) = some (List.zipWith nxt now.1 l, (max 0 (grt s - 1), false))
        by_cases c3 : 0 < grt s
        · rw [cnd_pos _ _ (decide_eq_true c3), wr_i64 (grt s - 1) (by omega) (by omega), Int.max_eq_right (by omega)]
        · rw [cnd_neg _ _ (decide_eq_false c3), Int.max_eq_left (by omega)]
      | false =>
        show cnd (decide (0 < now.2.1)) (some (List.zipWith nxt now.1 l, (wr .i64 (now.2.1 - 1), false))) (some (List.zipWith nxt now.1 l, (0, false))) = some (List.zipWith nxt now.1 l, (max 0 (now.2.1 - 1), false))
        by_cases c3 : 0 < now.2.1
        · rw [cnd_pos _ _ (decide_eq_true c3), wr_i64 (now.2.1 - 1) (by omega) (by omega), Int.max_eq_right (by omega)]
        · rw [cnd_neg _ _ (decide_eq_false c3), Int.max_eq_left (by omega)]

end Go.Proofs.YtdgiapeofmlecaaGreatDoor
