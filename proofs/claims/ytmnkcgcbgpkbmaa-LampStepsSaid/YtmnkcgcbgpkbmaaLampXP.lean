/- Part of a proof: plain readings of Go functions, their contracts, or plain facts of them. -/
import Derived.Test.YtmnkcgcbgpkbmaaDen2
namespace Go.Proofs.Ytmnkcgcbgpkbmaa
open Go.Den Go.RowKit Go.ChangeShapes

abbrev I := Ty.int .i64
abbrev U8 := Ty.int .u8
abbrev B := Ty.bool
abbrev Group := Ty.pair U8 (Ty.pair I I)
abbrev Seen := Ty.pair U8 (Ty.pair I I)
abbrev U8s := Ty.slice U8


/-- lamp.kept -/
def kept_t (x : Int) : Option (Int) :=
(some (gmin (gmax x 0) 1048576))
def kept (x : Int) : Int :=
((gmin (gmax x 0) 1048576))
theorem kept_e : ∀ x, kept_t x = some (kept x) := fun x => by
  unfold kept_t kept
  simp only [letK, cnd_some]


/-- lamp.more -/
def more_t (x : Int) : Option (Int) :=
(letK (kept x) (fun y =>
(letK (kept (wr .i64 (y + 1))) (fun y1 =>
(some y1)))))
def more (x : Int) : Int :=
(letK (kept x) (fun y =>
(letK (kept (wr .i64 (y + 1))) (fun y1 =>
(y1)))))
theorem more_e : ∀ x, more_t x = some (more x) := fun x => by
  unfold more_t more
  simp only [letK, cnd_some]


/-- lamp.goes -/
def goes_t (x : Int) : Option (Bool) :=
(some ((decide (1 ≤ x)) && (decide (x ≤ 3))))
def goes (x : Int) : Bool :=
(((decide (1 ≤ x)) && (decide (x ≤ 3))))
theorem goes_e : ∀ x, goes_t x = some (goes x) := fun x => by
  unfold goes_t goes
  simp only [letK, cnd_some]


/-- lamp.Follows -/
def follows_t (x : Int × Int) : Option (Bool) :=
(some ((((x.1 == 1) && ((x.2 == 2) && true)) || ((x.1 == 2) && ((x.2 == 3) && true))) || ((x.1 == 3) && ((x.2 == 1) && true))))
def follows (x : Int × Int) : Bool :=
(((((x.1 == 1) && ((x.2 == 2) && true)) || ((x.1 == 2) && ((x.2 == 3) && true))) || ((x.1 == 3) && ((x.2 == 1) && true))))
theorem follows_e : ∀ x, follows_t x = some (follows x) := fun x => by
  unfold follows_t follows
  simp only [letK, cnd_some]


/-- lamp.Next -/
def next_t (x : (Int × Int × Int) × (Int × Int × Int) × Int) : Option ((Int × Int × Int)) :=
(letK (more x.2.1.2.2) (fun y =>
(cnd (x.2.2 == x.2.1.1)
(letK (more x.2.1.2.1) (fun y1 =>
(cnd (x.2.2 == 2)
(some (x.2.2, (y1, 0)))
(some (x.2.2, (y1, y))))))
(cnd (x.2.2 == 2)
(some (x.2.2, (1, 0)))
(some (x.2.2, (1, y)))))))
def next (x : (Int × Int × Int) × (Int × Int × Int) × Int) : (Int × Int × Int) :=
(letK (more x.2.1.2.2) (fun y =>
(cnd (x.2.2 == x.2.1.1)
(letK (more x.2.1.2.1) (fun y1 =>
(cnd (x.2.2 == 2)
((x.2.2, (y1, 0)))
((x.2.2, (y1, y))))))
(cnd (x.2.2 == 2)
((x.2.2, (1, 0)))
((x.2.2, (1, y)))))))
theorem next_e : ∀ x, next_t x = some (next x) := fun x => by
  unfold next_t next
  simp only [letK, cnd_some]


/-- lamp.May -/
def may_t (x : (Int × Int × Int) × (Int × Int × Int) × Int) : Option (Int) :=
(letK (kept x.2.1.2.1) (fun y =>
(letK (goes x.2.1.1) (fun y1 =>
(cnd (!y1)
(some 2)
(letK (goes x.2.2) (fun y2 =>
(cnd (!y2)
(some 2)
(cnd ((!(x.2.2 == x.2.1.1)) && (!(follows (x.2.1.1, x.2.2))))
(some 2)
(cnd (((x.2.1.1 == 2) && (x.2.2 == 3)) && (decide (y < x.1.2.1)))
(some 5)
(cnd ((x.2.1.1 == 3) && ((x.2.2 == 3) == (decide (x.1.2.2 ≤ y))))
(some 6)
(some 0))))))))))))
def may (x : (Int × Int × Int) × (Int × Int × Int) × Int) : Int :=
(letK (kept x.2.1.2.1) (fun y =>
(letK (goes x.2.1.1) (fun y1 =>
(cnd (!y1)
(2)
(letK (goes x.2.2) (fun y2 =>
(cnd (!y2)
(2)
(cnd ((!(x.2.2 == x.2.1.1)) && (!(follows (x.2.1.1, x.2.2))))
(2)
(cnd (((x.2.1.1 == 2) && (x.2.2 == 3)) && (decide (y < x.1.2.1)))
(5)
(cnd ((x.2.1.1 == 3) && ((x.2.2 == 3) == (decide (x.1.2.2 ≤ y))))
(6)
(0))))))))))))
theorem may_e : ∀ x, may_t x = some (may x) := fun x => by
  unfold may_t may
  simp only [letK, cnd_some]


/-- lamp.Want -/
def want_t (x : (Int × Int × Int) × (Int × Int × Int) × Int) : Option (Int) :=
(letK (kept x.2.1.2.1) (fun y =>
(cnd (x.2.1.1 == 1)
(cnd (x.2.2 == 2)
(some 2)
(some 1))
(cnd (x.2.1.1 == 2)
(cnd ((x.2.2 == 2) || (decide (y < x.1.2.1)))
(some 2)
(some 3))
(cnd (x.2.1.1 == 3)
(cnd (decide (y < x.1.2.2))
(some 3)
(some 1))
(some 1))))))
def want (x : (Int × Int × Int) × (Int × Int × Int) × Int) : Int :=
(letK (kept x.2.1.2.1) (fun y =>
(cnd (x.2.1.1 == 1)
(cnd (x.2.2 == 2)
(2)
(1))
(cnd (x.2.1.1 == 2)
(cnd ((x.2.2 == 2) || (decide (y < x.1.2.1)))
(2)
(3))
(cnd (x.2.1.1 == 3)
(cnd (decide (y < x.1.2.2))
(3)
(1))
(1))))))
theorem want_e : ∀ x, want_t x = some (want x) := fun x => by
  unfold want_t want
  simp only [letK, cnd_some]


/-- stoplineref07.Kept -/
def rkept_t (x : Int) : Option (Int) :=
(cnd (decide (x < 0))
(some 0)
(cnd (decide (1048576 < x))
(some 1048576)
(some x)))
def rkept (x : Int) : Int :=
(cnd (decide (x < 0))
(0)
(cnd (decide (1048576 < x))
(1048576)
(x)))
theorem rkept_e : ∀ x, rkept_t x = some (rkept x) := fun x => by
  unfold rkept_t rkept
  simp only [letK, cnd_some]


/-- stoplineref07.more -/
def rmore_t (x : Int) : Option (Int) :=
(letK (rkept x) (fun y =>
(cnd (decide (y < 1048576))
(some (wr .i64 (y + 1)))
(some y))))
def rmore (x : Int) : Int :=
(letK (rkept x) (fun y =>
(cnd (decide (y < 1048576))
((wr .i64 (y + 1)))
(y))))
theorem rmore_e : ∀ x, rmore_t x = some (rmore x) := fun x => by
  unfold rmore_t rmore
  simp only [letK, cnd_some]


/-- stoplineref07.goes -/
def rgoes_t (x : Int) : Option (Bool) :=
(some (((x == 1) || (x == 2)) || (x == 3)))
def rgoes (x : Int) : Bool :=
((((x == 1) || (x == 2)) || (x == 3)))
theorem rgoes_e : ∀ x, rgoes_t x = some (rgoes x) := fun x => by
  unfold rgoes_t rgoes
  simp only [letK, cnd_some]


/-- stoplineref07.Follows -/
def rfollows_t (x : Int × Int) : Option (Bool) :=
(some ((((x.1 == 1) && (x.2 == 2)) || ((x.1 == 2) && (x.2 == 3))) || ((x.1 == 3) && (x.2 == 1))))
def rfollows (x : Int × Int) : Bool :=
(((((x.1 == 1) && (x.2 == 2)) || ((x.1 == 2) && (x.2 == 3))) || ((x.1 == 3) && (x.2 == 1))))
theorem rfollows_e : ∀ x, rfollows_t x = some (rfollows x) := fun x => by
  unfold rfollows_t rfollows
  simp only [letK, cnd_some]


/-- stoplineref07.Next -/
def rnext_t (x : (Int × Int × Int) × Int) : Option ((Int × Int × Int)) :=
(cnd (x.1.1 == x.2)
(letK (rmore x.1.2.1) (fun y =>
(letK (rmore x.1.2.2) (fun y1 =>
(cnd (x.2 == 2)
(some (x.2, (y, 0)))
(some (x.2, (y, y1))))))))
(letK (rmore x.1.2.2) (fun y =>
(cnd (x.2 == 2)
(some (x.2, (1, 0)))
(some (x.2, (1, y)))))))
def rnext (x : (Int × Int × Int) × Int) : (Int × Int × Int) :=
(cnd (x.1.1 == x.2)
(letK (rmore x.1.2.1) (fun y =>
(letK (rmore x.1.2.2) (fun y1 =>
(cnd (x.2 == 2)
((x.2, (y, 0)))
((x.2, (y, y1))))))))
(letK (rmore x.1.2.2) (fun y =>
(cnd (x.2 == 2)
((x.2, (1, 0)))
((x.2, (1, y)))))))
theorem rnext_e : ∀ x, rnext_t x = some (rnext x) := fun x => by
  unfold rnext_t rnext
  simp only [letK, cnd_some]


/-- stoplineref07.May -/
def rmay_t (x : (Int × Int × Int) × (Int × Int × Int) × Int) : Option (Int) :=
(letK (rgoes x.2.1.1) (fun y =>
(cnd ((!y) || (!(rgoes x.2.2)))
(some 2)
(cnd ((!(x.2.1.1 == x.2.2)) && (!(rfollows (x.2.1.1, x.2.2))))
(some 2)
(letK (rkept x.2.1.2.1) (fun y1 =>
(cnd (((x.2.1.1 == 2) && (x.2.2 == 3)) && (decide (y1 < x.1.2.1)))
(some 5)
(cnd (((x.2.1.1 == 3) && (x.2.2 == 3)) && (decide (x.1.2.2 ≤ y1)))
(some 6)
(cnd (((x.2.1.1 == 3) && (x.2.2 == 1)) && (decide (y1 < x.1.2.2)))
(some 6)
(some 0))))))))))
def rmay (x : (Int × Int × Int) × (Int × Int × Int) × Int) : Int :=
(letK (rgoes x.2.1.1) (fun y =>
(cnd ((!y) || (!(rgoes x.2.2)))
(2)
(cnd ((!(x.2.1.1 == x.2.2)) && (!(rfollows (x.2.1.1, x.2.2))))
(2)
(letK (rkept x.2.1.2.1) (fun y1 =>
(cnd (((x.2.1.1 == 2) && (x.2.2 == 3)) && (decide (y1 < x.1.2.1)))
(5)
(cnd (((x.2.1.1 == 3) && (x.2.2 == 3)) && (decide (x.1.2.2 ≤ y1)))
(6)
(cnd (((x.2.1.1 == 3) && (x.2.2 == 1)) && (decide (y1 < x.1.2.2)))
(6)
(0))))))))))
theorem rmay_e : ∀ x, rmay_t x = some (rmay x) := fun x => by
  unfold rmay_t rmay
  simp only [letK, cnd_some]


/-- stoplineref07.Want -/
def rwant_t (x : (Int × Int × Int) × (Int × Int × Int) × Int) : Option (Int) :=
(letK (rkept x.2.1.2.1) (fun y =>
(cnd ((x.2.1.1 == 1) && (x.2.2 == 2))
(some 2)
(cnd (x.2.1.1 == 2)
(cnd ((x.2.2 == 2) || (decide (y < x.1.2.1)))
(some 2)
(some 3))
(cnd ((x.2.1.1 == 3) && (decide (y < x.1.2.2)))
(some 3)
(some 1))))))
def rwant (x : (Int × Int × Int) × (Int × Int × Int) × Int) : Int :=
(letK (rkept x.2.1.2.1) (fun y =>
(cnd ((x.2.1.1 == 1) && (x.2.2 == 2))
(2)
(cnd (x.2.1.1 == 2)
(cnd ((x.2.2 == 2) || (decide (y < x.1.2.1)))
(2)
(3))
(cnd ((x.2.1.1 == 3) && (decide (y < x.1.2.2)))
(3)
(1))))))
theorem rwant_e : ∀ x, rwant_t x = some (rwant x) := fun x => by
  unfold rwant_t rwant
  simp only [letK, cnd_some]


/-- stoplinelaw07.alive -/
def alive_t (x : Unit) : Option (Bool) :=
(letK (want ((1, (3, 2)), ((2, (2, 0)), 1))) (fun y =>
(some ((y == 2) && ((want ((1, (3, 2)), ((2, (3, 0)), 1))) == 3)))))
def alive (x : Unit) : Bool :=
(letK (want ((1, (3, 2)), ((2, (2, 0)), 1))) (fun y =>
(((y == 2) && ((want ((1, (3, 2)), ((2, (3, 0)), 1))) == 3)))))
theorem alive_e : ∀ x, alive_t x = some (alive x) := fun x => by
  unfold alive_t alive
  simp only [letK, cnd_some]


/-- stoplinelaw07.LampNames -/
def lampNames_t (x : Unit) : Option (Bool) :=
(letK (want ((1, (3, 2)), ((3, (1, 0)), 2))) (fun y =>
(letK (may ((1, (3, 2)), ((2, (9, 0)), 1))) (fun y1 =>
(letK (next ((1, (3, 2)), ((2, (1048576, 0)), 2))) (fun y2 =>
(letK (next ((1, (3, 2)), ((3, (2, 2)), 1))) (fun y3 =>
(some (((((alive ()) && ((y == 3) && ((want ((1, (3, 2)), ((3, (2, 0)), 2))) == 1))) && (((y1 == 2) && ((may ((1, (3, 2)), ((2, (2, 0)), 3))) == 5)) && ((may ((1, (3, 2)), ((3, (2, 0)), 3))) == 6))) && ((y2.1 == 2) && ((y2.2.1 == 1048576) && ((y2.2.2 == 0) && true)))) && ((y3.1 == 1) && ((y3.2.1 == 1) && ((y3.2.2 == 3) && true)))))))))))))
def lampNames (x : Unit) : Bool :=
(letK (want ((1, (3, 2)), ((3, (1, 0)), 2))) (fun y =>
(letK (may ((1, (3, 2)), ((2, (9, 0)), 1))) (fun y1 =>
(letK (next ((1, (3, 2)), ((2, (1048576, 0)), 2))) (fun y2 =>
(letK (next ((1, (3, 2)), ((3, (2, 2)), 1))) (fun y3 =>
((((((alive ()) && ((y == 3) && ((want ((1, (3, 2)), ((3, (2, 0)), 2))) == 1))) && (((y1 == 2) && ((may ((1, (3, 2)), ((2, (2, 0)), 3))) == 5)) && ((may ((1, (3, 2)), ((3, (2, 0)), 3))) == 6))) && ((y2.1 == 2) && ((y2.2.1 == 1048576) && ((y2.2.2 == 0) && true)))) && ((y3.1 == 1) && ((y3.2.1 == 1) && ((y3.2.2 == 3) && true)))))))))))))
theorem lampNames_e : ∀ x, lampNames_t x = some (lampNames x) := fun x => by
  unfold lampNames_t lampNames
  simp only [letK, cnd_some]


/-- stoplinelaw07.LampSteps -/
def lampSteps_t (x : (Int × Int × Int) × (Int × Int × Int) × Int) : Option (Bool) :=
(letK (next x) (fun y =>
(letK (rnext x.2) (fun y1 =>
(some (((((y.1 == y1.1) && ((y.2.1 == y1.2.1) && ((y.2.2 == y1.2.2) && true))) && ((may x) == (rmay x))) && ((want x) == (rwant x))) && ((follows (x.2.1.1, x.2.2)) == (rfollows (x.2.1.1, x.2.2)))))))))
def lampSteps (x : (Int × Int × Int) × (Int × Int × Int) × Int) : Bool :=
(letK (next x) (fun y =>
(letK (rnext x.2) (fun y1 =>
((((((y.1 == y1.1) && ((y.2.1 == y1.2.1) && ((y.2.2 == y1.2.2) && true))) && ((may x) == (rmay x))) && ((want x) == (rwant x))) && ((follows (x.2.1.1, x.2.2)) == (rfollows (x.2.1.1, x.2.2)))))))))
theorem lampSteps_e : ∀ x, lampSteps_t x = some (lampSteps x) := fun x => by
  unfold lampSteps_t lampSteps
  simp only [letK, cnd_some]


/-- stoplinelaw07.LampWants -/
def lampWants_t (x : (Int × Int × Int) × (Int × Int × Int) × Int) : Option (Bool) :=
(letK (alive ()) (fun y =>
(cnd (((decide (x.2.1.1 < 1)) || (decide (3 < x.2.1.1))) || (!y))
(some y)
(letK (want x) (fun y1 =>
(letK (may (x.1, (x.2.1, y1))) (fun y2 =>
(some ((y2 == 0) && ((!((may x) == 0)) || (y1 == x.2.2)))))))))))
def lampWants (x : (Int × Int × Int) × (Int × Int × Int) × Int) : Bool :=
(letK (alive ()) (fun y =>
(cnd (((decide (x.2.1.1 < 1)) || (decide (3 < x.2.1.1))) || (!y))
(y)
(letK (want x) (fun y1 =>
(letK (may (x.1, (x.2.1, y1))) (fun y2 =>
(((y2 == 0) && ((!((may x) == 0)) || (y1 == x.2.2)))))))))))
theorem lampWants_e : ∀ x, lampWants_t x = some (lampWants x) := fun x => by
  unfold lampWants_t lampWants
  simp only [letK, cnd_some]


/-- stoplinelaw07.LampRuns -/
def lampRuns_t (x : (Int × Int × Int) × (List Int)) : Option (Bool) :=
(letK (alive ()) (fun y =>
(cnd ((decide (4000 < (llen x.2))) || (!y))
(some y)
(iter none (fun x1 =>
(cnd (decide (x1.2.1 < (llen x.2)))
(elimO (idx x.2 x1.2.1) (.done none) (fun x2 =>
(letK (want (x.1, (x1.2.2, x2))) (fun y1 =>
(cnd (y1 == x1.2.2.1)
(letK (next (x.1, (x1.2.2, y1))) (fun y2 =>
(cnd ((!(y2.2.1 == (wr .i64 (x1.1 + 1)))) || (!(y2.1 == y1)))
(.done (some false))
(.next ((wr .i64 (x1.1 + 1)), ((wr .i64 (x1.2.1 + 1)), y2))))))
(letK (follows (x1.2.2.1, y1)) (fun y2 =>
(cnd (((!y2) || ((x1.2.2.1 == 2) && (decide (x1.1 < x.1.2.1)))) || ((x1.2.2.1 == 3) && (!(x1.1 == (gmax 1 x.1.2.2)))))
(.done (some false))
(letK (next (x.1, (x1.2.2, y1))) (fun y3 =>
(cnd ((!(y3.2.1 == 1)) || (!(y3.1 == y1)))
(.done (some false))
(.next (1, ((wr .i64 (x1.2.1 + 1)), y3))))))))))))))
(.done (some true)))) lots (1, (0, (1, (1, 5))))))))

end Go.Proofs.Ytmnkcgcbgpkbmaa
