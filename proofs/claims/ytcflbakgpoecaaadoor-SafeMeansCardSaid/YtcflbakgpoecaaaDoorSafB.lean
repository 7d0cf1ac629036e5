/- Part of a proof: plain readings of Go functions, their contracts, or plain facts of them. -/
import Derived.Test.YtcflbakgpoecaaaDoorSafW
namespace Go.Proofs.YtcflbakgpoecaaaDoor
open Go.Den

/-! # Traces taken in two -/
theorem chk_shape (s : PSSite) : ∀ (l : List (List Int)) (now : PSSafe) (i : Int), 0 ≤ i → chk s now i l = (-1, 0) ∨ (i ≤ (chk s now i l).1 ∧ (chk s now i l).1 < i + l.length ∧ (chk s now i l).2 ≠ 0)
  | [], now, i, _ => .inl rfl
  | a :: l, now, i, hi => by
    rw [chk]
    by_cases c : faultV s now a ≠ 0
    · rw [if_pos c]
      exact .inr ⟨Int.le_refl _, by rw [List.length_cons]; simp only; omega, c⟩
    · rw [if_neg c]
      rcases chk_shape s l (behindV s now a) (i + 1) (by omega) with h | h
      · exact .inl h
      · exact .inr ⟨by omega, by rw [List.length_cons]; omega, h.2.2⟩

theorem chk_take (s : PSSite) : ∀ (l : List (List Int)) (now : PSSafe) (i : Int) (n : Nat), 0 ≤ i → chk s now i (l.take n) = if 0 ≤ (chk s now i l).1 ∧ (chk s now i l).1 < i + n then chk s now i l else (-1, 0)
  | [], now, i, n, _ => by rw [List.take_nil, chk, if_neg (by simp)]
  | a :: l, now, i, 0, hi => by
    rw [List.take_zero, chk, if_neg]
    rintro ⟨h1, h2⟩
    rcases chk_shape s (a :: l) now i hi with h | h
    · rw [h] at h1; simp only at h1; omega
    · omega
  | a :: l, now, i, n + 1, hi => by
    rw [List.take_succ_cons, chk, chk]
    by_cases c : faultV s now a ≠ 0
    · rw [if_pos c, if_pos c, if_pos ⟨hi, by simp only; omega⟩]
    · rw [if_neg c, if_neg c, chk_take s l _ _ n (by omega)]
      rw [show i + 1 + (n : Int) = i + ((n + 1 : Nat) : Int) by omega]

theorem chk_append (s : PSSite) (m : List (List Int)) : ∀ (l : List (List Int)) (now : PSSafe) (i : Int), 0 ≤ i → chk s now i l = (-1, 0) → ∃ now' i', chk s now i (l ++ m) = chk s now' i' m
  | [], now, i, _, _ => ⟨now, i, rfl⟩
  | a :: l, now, i, hi, h => by
    rw [chk] at h
    by_cases c : faultV s now a ≠ 0
    · rw [if_pos c] at h
      have := congrArg Prod.fst h
      simp only at this; omega
    · rw [if_neg c] at h
      obtain ⟨n', i', e⟩ := chk_append s m l _ _ (by omega) h
      exact ⟨n', i', by rw [List.cons_append, chk, if_neg c, e]⟩

theorem flash_free {s : PSSite} {now : PSSafe} {l : List Int} (hl : llen l = llen s.2.1) (h : flashB l = true) : faultV s now l = 0 := by
  unfold faultV
  rw [if_neg (by simpa using hl), if_pos h]

theorem safeBegins_law (x : PSSite × List (List Int) × Int) (hf : FitsAll [SSite, U8ss, I64] x) : law08_SafeBegins_t x = some true := by
  obtain ⟨s, tr, n⟩ := x
  have hs : SFits s := sfits hf.1
  have ht : tr.length ≤ maxLen ∧ ∀ l ∈ tr, l.length ≤ maxLen := ⟨hf.2.1.1, fun l hl => (hf.2.1.2 l hl).1⟩
  unfold law08_SafeBegins_t
  rw [show law08_alive_t () = some true from rfl, elimO_eq _ _ rfl]
  obtain ⟨g, hg⟩ := great_s s hs
  rw [elimO_eq _ _ hg, cnd_if]
  split
  · rfl
  rename_i hcond
  simp only [Bool.or_eq_true, decide_eq_true_eq, not_or, Int.not_lt, Bool.not_true, Bool.false_eq_true, not_false_eq_true, and_true] at hcond
  obtain ⟨⟨⟨_, h300⟩, n0⟩, n1⟩ := hcond
  obtain ⟨e, h2, h3⟩ := check_s hs
  have hok : e = 0 → SOK s := fun h => sok hs (check_ok h3 h)
  have hin : (decide (0 ≤ n) && decide (n ≤ llen tr)) = true := by simp [n0, n1]
  have htk : ∀ l ∈ ltake tr n, l.length ≤ maxLen := fun l hl => ht.2 l (List.mem_of_mem_take hl)
  rw [elimO_eq _ _ (safeCheck_e hok h2 ht.2), cnd_pos _ _ hin, elimO_eq _ _ (safeCheck_e hok h2 htk)]
  unfold safeCheckR
  by_cases h0 : e = 0
  · subst h0
    have hk := hok rfl
    have k1 := hk.n1
    have k2 := hk.n2
    have htl : llen (ltake tr n) ≤ llen tr := by unfold llen ltake; rw [List.length_take]; omega
    have hn0 := llen_nonneg (ltake tr n)
    rw [if_neg (show ¬ ((0 : Int) ≠ 0) by simp), if_neg (show ¬ 4096 < llen tr by omega), if_neg (show ¬ 4096 < llen (ltake tr n) by omega)]
    try simp only
    rw [cnd_neg (b := !((0 : Int) == 0)) _ _ rfl]
    have hT : chk s (firstV s) 0 (ltake tr n) = if 0 ≤ (chk s (firstV s) 0 tr).1 ∧ (chk s (firstV s) 0 tr).1 < n then chk s (firstV s) 0 tr else (-1, 0) := by
      have := chk_take s tr (firstV s) 0 n.toNat (by omega)
      rw [show (0 : Int) + (n.toNat : Int) = n by omega] at this
      exact this
    try simp only
    by_cases c : 0 ≤ (chk s (firstV s) 0 tr).1 ∧ (chk s (firstV s) 0 tr).1 < n
    · rw [cnd_pos _ _ (by simp [c.1, c.2]), hT, if_pos c]
      simp
    · rw [if_neg c] at hT
      rw [cnd_neg _ _ (by
        apply Bool.eq_false_iff.2
        intro hh
        simp only [Bool.and_eq_true, decide_eq_true_eq] at hh
        exact c hh), hT, cnd_neg _ _ (by simp), cnd_pos _ _ (make_ok (by omega) (by omega))]
      refine iter_up (fun z : Int × List Int => z.1) (llen s.2.1) (fun z => llen z.2 = llen s.2.1 ∧ ∀ j, 0 ≤ j → j < z.1 → idx z.2 j = some 4) (fun r => r = some true) (by omega) (by simp) (by simp only; omega) ⟨llen_lrep (by omega) _, fun j j0 j1 => absurd j1 (by simp only; omega)⟩ (fun z hI i0 i1 => ?_) (fun z hI hz => ?_)
      · obtain ⟨i, out⟩ := z
        obtain ⟨hlen, hj⟩ := hI
        simp only at i0 i1 hlen hj
        obtain ⟨y, hy, _⟩ := idx_get (l := out) i0 (by omega)
        try simp only
        rw [cnd_pos _ _ (decide_eq_true (by omega)), elimO_eq _ _ hy, elimO_eq _ _ hy, wr_i64 (i + 1) (by omega) (by omega)]
        refine ⟨rfl, by (try simp only); rw [llen_lset]; exact hlen, fun j j0 j1 => ?_⟩
        simp only at j1 ⊢
        rw [idx_lset i0 (by omega)]
        split
        · rfl
        · exact hj j j0 (by omega)
      · obtain ⟨i, out⟩ := z
        obtain ⟨hlen, hj⟩ := hI
        simp only at hz hlen hj
        have hfl : flashB out = true := by
          unfold flashB
          rw [decide_eq_true_eq]
          intro a ha
          obtain ⟨j, hj'⟩ := mem_idx ha
          have h1 := idx_some_iff hj'
          have := hj j h1.1 (by omega)
          rw [hj'] at this
          cases this; rfl
        have hol : out.length ≤ maxLen := by unfold llen at hlen k2; unfold maxLen; omega
        have hl1 : llen ([] ++ ltake tr n) = llen (ltake tr n) := rfl
        have hl2 : llen (out :: (out :: [])) = 2 := rfl
        try simp only
        rw [cnd_neg _ _ (decide_eq_false (by omega)), cnd_pos _ _ hin, cnd_pos _ _ (by rw [Bool.true_and]; exact room_le (by omega)), cnd_pos _ _ (by rw [Bool.true_and]; exact room_le (by omega))]
        have hall : ∀ l ∈ ([] ++ ltake tr n) ++ (out :: (out :: [])), l.length ≤ maxLen := by
          intro l hl
          rcases List.mem_append.1 hl with hl | hl
          · exact htk l hl
          · have : l = out := by simpa using hl
            rw [this]; exact hol
        have hlen2 : llen (([] ++ ltake tr n) ++ (out :: (out :: []))) = llen (ltake tr n) + 2 := by
          unfold llen; rw [List.length_append]; simp
        obtain ⟨now', i', he⟩ := chk_append s (out :: (out :: [])) (ltake tr n) (firstV s) 0 (by omega) hT
        have hfin : chk s (firstV s) 0 (([] ++ ltake tr n) ++ (out :: (out :: []))) = (-1, 0) := by
          rw [List.nil_append, he, chk, if_neg (by rw [flash_free hlen hfl]; simp), chk, if_neg (by rw [flash_free hlen hfl]; simp), chk]
        rw [elimO_eq _ _ (safeCheck_e hok h2 hall)]
        unfold safeCheckR
        rw [if_neg (by simp), if_neg (by omega), hfin]
        exact rfl
  · rw [if_pos h0]
    try simp only
    rw [cnd_pos _ _ (by simp [h0])]
    simp [h0]

end Go.Proofs.YtcflbakgpoecaaaDoor
