/- Part of a proof: plain readings of Go functions, their contracts, or plain facts of them. -/
import Derived.Test.YtfdnmjabjmedgaaDoorPlqE
namespace Go.Proofs.YtfdnmjabjmedgaaDoor
open Go.Den

/-! # The document's own way to let through -/
theorem cnt_join {A : Type} {bad : A} {l : List Int} (hl : l.length ≤ maxLen) (K : Int → A) : joinPt K (fun k => iter bad (fun x1 : Int × Int =>
(cnd (decide (x1.2 < (llen l)))
(elimO (idx l x1.2) (.done bad) (fun x2 =>
(cnd (x2 == 4)
(.next ((wr .i64 (x1.1 + 1)), (wr .i64 (x1.2 + 1))))
(.next (x1.1, (wr .i64 (x1.2 + 1)))))))
(.done (k x1.1)))) lots (0, 0)) = K (cnt4 l) := by
  rw [joinPt_app]
  have hm : llen l ≤ 9223372036854775807 := maxLen_i64 hl
  refine iter_up (fun z : Int × Int => z.2) (llen l) (fun z => z.1 = cnt4 (l.take z.2.toNat)) (fun r => r = K (cnt4 l)) (by omega) (by simp) (llen_nonneg l) rfl (fun z hI i0 i1 => ?_) (fun z hI hz => ?_)
  · obtain ⟨n, i⟩ := z
    simp only at hI i0 i1
    obtain ⟨a, ha, _⟩ := idx_get i0 i1
    have ht : cnt4 (l.take (i + 1).toNat) = cnt4 (l.take i.toNat) + if a = 4 then 1 else 0 := by
      have h1 : l[i.toNat]? = some a := by rw [← idx_nat i0]; exact ha
      rw [show (i + 1).toNat = i.toNat + 1 by omega, List.take_add_one, h1]
      unfold cnt4
      rw [List.filter_append, List.length_append]
      by_cases c : a = 4 <;> simp [c]
    have hle : cnt4 (l.take i.toNat) ≤ i := by
      unfold cnt4
      have := List.length_filter_le (fun a => a == 4) (l.take i.toNat)
      have := List.length_take_le i.toNat l
      omega
    have h0 : 0 ≤ cnt4 (l.take i.toNat) := by unfold cnt4; omega
    try simp only
    rw [cnd_pos _ _ (decide_eq_true i1), elimO_eq _ _ ha, wr_i64 (i + 1) (by omega) (by omega), hI, wr_i64 (cnt4 (l.take i.toNat) + 1) (by omega) (by omega)]
    by_cases c : a = 4
    · rw [cnd_pos _ _ (by simpa using c)]
      exact ⟨rfl, by (try simp only); rw [ht, if_pos c]⟩
    · rw [cnd_neg _ _ (by simpa using c)]
      exact ⟨rfl, by (try simp only); rw [ht, if_neg c]; omega⟩
  · obtain ⟨n, i⟩ := z
    simp only at hI hz
    subst hz
    try simp only
    rw [cnd_neg _ _ (decide_eq_false (by omega))]
    show K n = _
    rw [hI, List.take_of_length_le (by unfold llen; omega)]

/-- a list that is grown to another one -/
theorem grow_loop {A : Type} {bad : A} {B : List Int} {F : List Int × Int → Step (List Int × Int) A} (P : A → Prop) (n : Int) (hB : llen B = n) (hn : n ≤ 100000)
    (hF : ∀ out i y, 0 ≤ i → i < n → llen out = i → idx B i = some y → F (out, i) = .next (out ++ [y], wr .i64 (i + 1))) (hK : ∃ r, F (B, n) = .done r ∧ P r) : P (iter bad F lots ([], 0)) := by
  have hn0 := llen_nonneg B
  refine iter_up (fun z : List Int × Int => z.2) n (fun z => llen z.1 = z.2 ∧ ∀ j, 0 ≤ j → j < z.2 → idx z.1 j = idx B j) P (by omega) (by simp) (by simp only; omega) ⟨rfl, fun j j0 j1 => absurd j1 (by simp only; omega)⟩ (fun z hI i0 i1 => ?_) (fun z hI hz => ?_)
  · obtain ⟨out, i⟩ := z
    obtain ⟨hlen, hj⟩ := hI
    simp only at i0 i1 hlen hj
    obtain ⟨y, hy, _⟩ := idx_get (l := B) i0 (by omega)
    rw [hF out i y i0 i1 hlen hy, wr_i64 (i + 1) (by omega) (by omega)]
    refine ⟨rfl, by (try simp only); rw [llen_snoc]; omega, fun j j0 j1 => ?_⟩
    simp only at j1 ⊢
    by_cases e : j = i
    · subst e
      rw [hy, ← hlen, idx_snoc]
    · rw [idx_append j0, if_pos (by omega)]
      exact hj j j0 (by omega)
  · obtain ⟨out, i⟩ := z
    obtain ⟨hlen, hj⟩ := hI
    simp only at hz hlen hj
    subst hz
    have : out = B := idx_ext (by rw [hlen, hB]) fun j j0 j1 => hj j j0 (by omega)
    rw [this]
    obtain ⟨r, hr, hp⟩ := hK
    rw [hr]; exact hp

end Go.Proofs.YtfdnmjabjmedgaaDoor
