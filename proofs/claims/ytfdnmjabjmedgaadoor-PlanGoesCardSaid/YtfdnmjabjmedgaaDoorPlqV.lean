/- Part of a proof: plain readings of Go functions, their contracts, or plain facts of them. -/
import Derived.Test.YtfdnmjabjmedgaaDoorPlqC
import Derived.LaidLaws
namespace Go.Proofs.YtfdnmjabjmedgaaDoor
open Go.Den Go.RowKit Go.ChangeShapes

theorem trod_array_ints {H : Type} {enc : TypeId × Value → H} {P : Program} {w : World} {base : Nat} {sp : Nat → Bool} {held : Bool} {t e : TypeId} {n : Nat} {k : IntKind} (ht : P.underlying t = some (.array n e)) (he : P.underlying e = some (.int k)) (hc : P.cellsOf e = 1) (hct : P.cellsOf t = n) {fuel : Nat} {cs : List Value} {ns : List Int} {p : List MemPlace}
    (h : DataW.trod enc P w base sp held fuel t cs = some (.agg (ns.map fun m => .lit (.int k m)), p)) : cs = ns.map fun m => .int k m := by
  cases fuel with
  | zero => simp [DataW.trod] at h
  | succ fuel =>
    unfold DataW.trod at h
    rw [ht] at h
    simp only at h
    split at h
    · rename_i hl
      rw [hct] at hl
      simp only [Option.map_eq_some_iff] at h
      obtain ⟨xs, hx, hd⟩ := h
      have hd1 : xs.map (·.1) = ns.map fun m => .lit (.int k m) := by
        have := congrArg Prod.fst hd
        simpa using this
      have hlen : xs.length = n := by simpa using mapM_some_length hx
      have hnl : ns.length = n := by
        have := congrArg List.length hd1
        simpa [hlen] using this.symm
      apply List.ext_getElem
      · simp [hl, hnl]
      · intro i h1 h2
        have hi : i < n := by omega
        have hg := mapM_some_get hx i i (by simp [hi])
        rw [hc] at hg
        have hxi : xs[i]? = some xs[i] := by simp [hlen, hi]
        rw [hxi] at hg
        obtain ⟨m, e1, e2, _⟩ := DataW.trod_int he hg
        have e3 : (cs.drop (i * 1)).take 1 = [cs[i]] := by
          rw [Nat.mul_one, List.drop_eq_getElem_cons h1]; rfl
        rw [e3] at e1
        have e4 : cs[i] = .int k m := by simpa using e1
        have e5 : (xs.map (·.1))[i]? = some (.lit (.int k m)) := by
          simp [hxi, e2]
        rw [hd1] at e5
        have e6 : ns[i]? = some ns[i] := by simp [hnl, hi]
        rw [List.getElem?_map, e6] at e5
        simp only [Option.map_some, Option.some.injEq, DataW.lit.injEq, Lit.int.injEq, true_and] at e5
        rw [e4, List.getElem_map, e5]
    · cases h

def tab : List Int := Lib.deBruijn32tab.map fun (n : Nat) => (n : Int)

theorem V_of_laid {W : World} (h : laidMet Tryd.prog Rows.planPartsRow.laid W) : V W := by
  obtain ⟨ps, ⟨g, t, cs, fuel, p, q, h1, h2, h3, h4, _, hps⟩, _, hz⟩ := h
  have hg : g = 0 := Option.some.inj (h1.symm.trans (show _ = some 0 by kernel_rfl))
  subst hg
  have ht : t = 131 := Option.some.inj (h2.symm.trans (show (Tryd.prog.globals[0]?).map (·.type) = some 131 by kernel_rfl))
  subst ht
  have hc : cs.toList = tab.map fun m => .int .u8 m := trod_array_ints (n := 32) (e := 5) (k := .u8) (by kernel_rfl) (by kernel_rfl) (by kernel_rfl) (by kernel_rfl) h4
  have hsz : cs.size = 32 := by
    have := congrArg List.length hc
    simpa [tab, Lib.deBruijn32tab] using this
  obtain ⟨⟨c, ty, hc1⟩, _⟩ := hz 0 0 (by
    rw [hps, hsz]
    simp [MemPlace.row])
  have hv := h3
  unfold World.var? at hv
  rw [h1] at hv
  simp only [Option.bind_some, hc1, Option.some.injEq] at hv
  subst hv
  exact ⟨c, ty, hc1, by rw [hc]; simp [tab]⟩

/-- a world in which the variable is as the text lays it -/
noncomputable def laidWorld (os : Os) : World :=
  let w0 := World.holding Tryd.prog os ⟨#[], #[], []⟩
  { w0 with heap := w0.heap.modify 0 fun
      | .cells _ t frozen => .cells (tab.map fun m => Value.int .u8 m).toArray t frozen
      | o => o }

theorem laidWorld_met (os : Os) (args : Array Value) : laidMetH Tryd.prog Rows.planPartsRow.laid ((laidWorld os).forCall (fun _ _ => 0) ⟨#[], args, []⟩).memory :=
  laidMet_of_run' 8 (by kernel_rfl) (by kernel_rfl)

end Go.Proofs.YtfdnmjabjmedgaaDoor
