/- Part of a proof: plain readings of Go functions, their contracts, or plain facts of them. -/
import Derived.Test.YtfdnmjabjmedgaaDoorPlqL
import Derived.Test.YtfdnmjabjmedgaaDoorPlqR
namespace Go.Proofs.YtfdnmjabjmedgaaDoor
open Go.Den

/-! # The document's look at traces -/
theorem iter_done {σ A : Type} {bad a : A} {f : σ → Step σ A} {s : σ} (h : f s = .done a) : iter bad f lots s = a := by
  have e : lots = 18446744073709551615 + 1 := rfl
  rw [e]
  unfold iter
  rw [h]

theorem refApart8_e {s : PSSite} (h : SOK s) {a b : Int} (a0 : 0 ≤ a) (a1 : a < llen s.2.1) (b0 : 0 ≤ b) (b1 : b < llen s.2.1) : ref08_Apart_t (s, (a, b)) = some (apartB s a b) := by
  have n2 := h.n2
  have e := idx_el (l := s.2.2.1) a0 (by rw [h.la]; exact a1)
  unfold ref08_Apart_t
  rw [elimO_eq _ _ e, wr_u64i b0 (by omega), andBit (h.us a _ e) b0 (by omega)]
  rfl
theorem refBetween8_e {s : PSSite} (h : SOK s) {a b : Int} (a0 : 0 ≤ a) (a1 : a < llen s.2.1) (b0 : 0 ≤ b) (b1 : b < llen s.2.1) : ref08_Between_t (s, (a, b)) = some (betw s a b) := by
  have e := idx_el (l := s.2.2.2.1) a0 (by rw [h.lb]; exact a1)
  unfold ref08_Between_t
  rw [elimO_eq _ _ e, elimO_eq _ _ (idx_el b0 (by rw [h.rows a _ e]; exact b1))]
  rfl

def cnt4 (l : List Int) : Int := ((l.filter fun a => a == 4).length : Nat)
theorem cnt4_all (l : List Int) : (cnt4 l == llen l) = flashB l := by
  unfold cnt4 llen flashB
  apply Bool.eq_iff_iff.2
  rw [beq_iff_eq, decide_eq_true_eq, Int.ofNat_inj, List.length_filter_eq_length_iff]
  simp
theorem cnt4_pos (l : List Int) : 0 < cnt4 l ↔ 4 ∈ l := by
  unfold cnt4
  rw [show (0 < ((l.filter fun a => a == 4).length : Int)) ↔ 0 < (l.filter fun a => a == 4).length by omega, List.length_pos_iff_exists_mem]
  simp
theorem kept_in (n : Int) : 0 ≤ lamp_kept n ∧ lamp_kept n ≤ 1048576 := by
  unfold lamp_kept; rw [gmin_eq, gmax_eq]; omega
end Go.Proofs.YtfdnmjabjmedgaaDoor
