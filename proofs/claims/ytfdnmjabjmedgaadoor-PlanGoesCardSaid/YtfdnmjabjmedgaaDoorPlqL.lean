/- Part of a proof: plain readings of Go functions, their contracts, or plain facts of them. -/
import Derived.Test.YtfdnmjabjmedgaaDoorPlqG
import Derived.Test.YtfdnmjabjmedgaaDoorDen3
namespace Go.Proofs.YtfdnmjabjmedgaaDoor
open Go.Den

/-! # Which traces of lights are safe -/
def apartB (s : PSSite) (a b : Int) : Bool := bitI (el s.2.2.1 a) b
def betw (s : PSSite) (a b : Int) : Int := el (el s.2.2.2.1 a) b

structure SOK (s : PSSite) : Prop where
  n1 : 1 ≤ llen s.2.1
  n2 : llen s.2.1 ≤ 16
  la : llen s.2.2.1 = llen s.2.1
  lb : llen s.2.2.2.1 = llen s.2.1
  rows : ∀ i r, idx s.2.2.2.1 i = some r → llen r = llen s.2.1
  us : ∀ i x, idx s.2.2.1 i = some x → U32ok x
  grp : ∀ i g, idx s.2.1 i = some g → (1 ≤ g.2.1 ∧ g.2.1 ≤ 1048576) ∧ (1 ≤ g.2.2 ∧ g.2.2 ≤ 1048576)
  pair : ∀ a b, 0 ≤ a → a < llen s.2.1 → 0 ≤ b → b < llen s.2.1 → apartB s a b = apartB s b a ∧ (apartB s a b = true → a ≠ b ∧ (el s.2.1 a).2.2 ≤ betw s a b ∧ betw s a b ≤ 1048576) ∧ (apartB s a b = false → betw s a b = 0)

theorem sok {s : PSSite} (hs : SFits s) (h : SiteOK s) : SOK s where
  n1 := h.shape.n1
  n2 := h.shape.n2
  la := h.shape.a
  lb := h.shape.b
  rows := h.shape.rows
  us := fun i x hx => hs.as x (idx_some_iff hx).2.2
  grp := fun i g hg => ⟨(h.apart i g hg).min, (h.apart i g hg).yellow⟩
  pair := fun a b a0 a1 b0 b1 => by
    have e1 := idx_el (l := s.2.1) a0 a1
    have e2 := idx_el (l := s.2.2.2.1) a0 (by rw [h.shape.b]; exact a1)
    have e3 := idx_el (l := s.2.2.1) a0 (by rw [h.shape.a]; exact a1)
    have e4 := idx_el (l := s.2.2.1) b0 (by rw [h.shape.a]; exact b1)
    have e5 := idx_el (l := el s.2.2.2.1 a) b0 (by rw [h.shape.rows a _ e2]; exact b1)
    exact (h.apart a _ e1).row _ _ b _ _ e2 e3 e5 e4

theorem betw_ok {s : PSSite} (h : SOK s) {a b : Int} (a0 : 0 ≤ a) (a1 : a < llen s.2.1) (b0 : 0 ≤ b) (b1 : b < llen s.2.1) : 0 ≤ betw s a b ∧ betw s a b ≤ 1048576 := by
  obtain ⟨_, h2, h3⟩ := h.pair a b a0 a1 b0 b1
  cases c : apartB s a b with
  | true =>
    have := h2 c
    have := (h.grp a _ (idx_el a0 a1)).2
    omega
  | false => have := h3 c; omega

theorem apart_e {s : PSSite} (h : SOK s) {a b : Int} (a0 : 0 ≤ a) (a1 : a < llen s.2.1) (b0 : 0 ≤ b) (b1 : b < llen s.2.1) : safe_apart_t (s, (a, b)) = some (apartB s a b) := by
  have n2 := h.n2
  have e := idx_el (l := s.2.2.1) a0 (by rw [h.la]; exact a1)
  unfold safe_apart_t
  rw [elimO_eq _ _ e, cnd_pos _ _ (decide_eq_true b0)]
  show some (bitop .and .u32 (shrop .u32 (el s.2.2.1 a) b) 1 == 1) = _
  rw [andBit (h.us a _ e) b0 (by omega)]
  rfl

theorem between_e {s : PSSite} (h : SOK s) {a b : Int} (a0 : 0 ≤ a) (a1 : a < llen s.2.1) (b0 : 0 ≤ b) (b1 : b < llen s.2.1) : safe_between_t (s, (a, b)) = some (betw s a b) := by
  have e := idx_el (l := s.2.2.2.1) a0 (by rw [h.lb]; exact a1)
  unfold safe_between_t
  rw [elimO_eq _ _ e, elimO_eq _ _ (idx_el b0 (by rw [h.rows a _ e]; exact b1))]
  rfl

structure GrtIs (s : PSSite) (m : Int) : Prop where
  lo : 0 ≤ m
  hi : m ≤ 1048576
  all : ∀ a b, 0 ≤ a → a < llen s.2.1 → 0 ≤ b → b < llen s.2.1 → apartB s a b = true → betw s a b ≤ m
  one : m = 0 ∨ ∃ a b, 0 ≤ a ∧ a < llen s.2.1 ∧ 0 ≤ b ∧ b < llen s.2.1 ∧ apartB s a b = true ∧ m = betw s a b

theorem grt_unique {s : PSSite} {m m' : Int} (h : GrtIs s m) (h' : GrtIs s m') : m = m' := by
  have h1 := h.lo; have h2 := h'.lo
  rcases h.one with e | ⟨a, b, q1, q2, q3, q4, q5, e⟩
  · rcases h'.one with e' | ⟨a, b, q1, q2, q3, q4, q5, e'⟩
    · rw [e, e']
    · have := h.all a b q1 q2 q3 q4 q5; omega
  · have := h'.all a b q1 q2 q3 q4 q5
    rcases h'.one with e' | ⟨a', b', r1, r2, r3, r4, r5, e'⟩
    · omega
    · have := h.all a' b' r1 r2 r3 r4 r5; omega

theorem great_gen {s : PSSite} (h : SOK s) {F : Int × Int → Step (Int × Int) (Option Int)} {B : Int → Int × Int → Step (Int × Int) (Step (Int × Int) (Option Int))}
    (hF : ∀ m a, 0 ≤ a → a < llen s.2.1 → F (m, a) = iter (.done none) (B a) lots (m, 0)) (hFe : ∀ m, F (m, llen s.2.1) = .done (some m))
    (hB : ∀ m a b, 0 ≤ a → a < llen s.2.1 → 0 ≤ b → b < llen s.2.1 → B a (m, b) = .next (if apartB s a b = true then max m (betw s a b) else m, wr .i64 (b + 1))) (hBe : ∀ m a, 0 ≤ a → a < llen s.2.1 → B a (m, llen s.2.1) = .done (.next (m, wr .i64 (a + 1)))) :
    ∃ m, iter none F lots (0, 0) = some m ∧ GrtIs s m := by
  have n1 := h.n1
  have n2 := h.n2
  refine iter_up (fun z : Int × Int => z.2) (llen s.2.1) (fun z => 0 ≤ z.1 ∧ z.1 ≤ 1048576 ∧ (∀ a b, 0 ≤ a → a < z.2 → 0 ≤ b → b < llen s.2.1 → apartB s a b = true → betw s a b ≤ z.1) ∧ (z.1 = 0 ∨ ∃ a b, 0 ≤ a ∧ a < llen s.2.1 ∧ 0 ≤ b ∧ b < llen s.2.1 ∧ apartB s a b = true ∧ z.1 = betw s a b)) (fun r : Option Int => ∃ m, r = some m ∧ GrtIs s m) (by omega) (by simp) (by simp only; omega) ⟨by simp, by simp, fun a b h0 h1 => by simp only at h1; omega, .inl rfl⟩ (fun z hI a0 a1 => ?_) (fun z hI hz => ?_)
  · obtain ⟨m, a⟩ := z
    obtain ⟨g1, g2, g3, g4⟩ := hI
    simp only at a0 a1 g1 g2 g3 g4
    rw [hF m a a0 a1]
    refine iter_up (fun z : Int × Int => z.2) (llen s.2.1) (fun z => 0 ≤ z.1 ∧ z.1 ≤ 1048576 ∧ (∀ a' b, 0 ≤ a' → (a' < a ∧ b < llen s.2.1 ∨ a' = a ∧ b < z.2) → 0 ≤ b → apartB s a' b = true → betw s a' b ≤ z.1) ∧ (z.1 = 0 ∨ ∃ a b, 0 ≤ a ∧ a < llen s.2.1 ∧ 0 ≤ b ∧ b < llen s.2.1 ∧ apartB s a b = true ∧ z.1 = betw s a b)) _ (by omega) (by simp) (by simp only; omega) ⟨g1, g2, fun a' b h0 h1 h2 h3 => ?_, g4⟩ (fun z hJ b0 b1 => ?_) (fun z hJ hz => ?_)
    · rcases h1 with ⟨h1, h4⟩ | ⟨h1, h4⟩
      · exact g3 a' b h0 h1 h2 h4 h3
      · simp only at h4; omega
    · obtain ⟨m, b⟩ := z
      obtain ⟨g1, g2, g3, g4⟩ := hJ
      simp only at b0 b1 g1 g2 g3 g4
      have hbw := betw_ok h a0 a1 b0 b1
      rw [hB m a b a0 a1 b0 b1, wr_i64 (b + 1) (by omega) (by omega)]
      refine ⟨rfl, ?_, ?_, fun a' b' h0 h1 h2 h3 => ?_, ?_⟩
      · simp only; split <;> omega
      · simp only; split <;> omega
      · simp only at h1 ⊢
        by_cases e : a' = a ∧ b' = b
        · obtain ⟨rfl, rfl⟩ := e
          rw [if_pos h3]; omega
        · have := g3 a' b' h0 (by omega) h2 h3
          split <;> omega
      · try simp only
        split
        · rename_i c
          by_cases hle : betw s a b ≤ m
          · rw [Int.max_eq_left hle]; exact g4
          · rw [Int.max_eq_right (by omega)]; exact .inr ⟨a, b, a0, a1, b0, b1, c, rfl⟩
        · exact g4
    · obtain ⟨m, b⟩ := z
      obtain ⟨g1, g2, g3, g4⟩ := hJ
      simp only at hz g1 g2 g3 g4
      subst hz
      rw [hBe m a a0 a1, wr_i64 (a + 1) (by omega) (by omega)]
      exact ⟨rfl, g1, g2, fun a' b h0 h1 h2 h4 h5 => g3 a' b h0 (by simp only at h1; omega) h2 h5, g4⟩
  · obtain ⟨m, a⟩ := z
    obtain ⟨g1, g2, g3, g4⟩ := hI
    simp only at hz g1 g2 g3 g4
    subst hz
    rw [hFe m]
    exact ⟨m, rfl, g1, g2, g3, g4⟩

theorem greatest_e {s : PSSite} (h : SOK s) : ∃ m, safe_greatest_t s = some m ∧ GrtIs s m := by
  unfold safe_greatest_t
  refine great_gen h (F := _) (B := fun a x2 => (cnd (decide (x2.2 < (llen s.2.1)))
(elimO (safe_apart_t (s, (a, x2.2))) (.done (.done none)) (fun x3 =>
(cnd x3
(elimO (safe_between_t (s, (a, x2.2))) (.done (.done none)) (fun x4 =>
(.next ((gmax x2.1 x4), (wr .i64 (x2.2 + 1))))))
(.next (x2.1, (wr .i64 (x2.2 + 1)))))))
(.done (.next (x2.1, (wr .i64 (a + 1))))))) (fun m a a0 a1 => by (try simp only); rw [cnd_pos _ _ (decide_eq_true a1)]) (fun m => by (try simp only); rw [cnd_neg _ _ (decide_eq_false (by omega))]) (fun m a b a0 a1 b0 b1 => ?_) (fun m a a0 a1 => by (try simp only); rw [cnd_neg _ _ (decide_eq_false (by omega))])
  try simp only
  rw [cnd_pos _ _ (decide_eq_true b1), elimO_eq _ _ (apart_e h a0 a1 b0 b1)]
  cases c : apartB s a b with
  | true => rw [cnd_pos _ _ rfl, elimO_eq _ _ (between_e h a0 a1 b0 b1), gmax_eq, if_pos rfl]
  | false => rw [cnd_neg _ _ rfl, if_neg (by simp)]

def grt (s : PSSite) : Int := (safe_greatest_t s).getD 0
theorem grt_e {s : PSSite} (h : SOK s) : safe_greatest_t s = some (grt s) := by
  obtain ⟨m, h1, _⟩ := greatest_e h
  unfold grt; rw [h1]; rfl
theorem grt_is {s : PSSite} (h : SOK s) : GrtIs s (grt s) := by
  obtain ⟨m, h1, h2⟩ := greatest_e h
  unfold grt; rw [h1]; exact h2

def seen0 : PSSeen := (1, (1, 1048576))
def firstV (s : PSSite) : PSSafe := (lrep (llen s.2.1) seen0, (grt s, false))
theorem first_e {s : PSSite} (h : SOK s) : safe_first_t s = some (firstV s) := by
  have n1 := h.n1
  have n2 := h.n2
  unfold safe_first_t
  rw [elimO_eq _ _ (grt_e h)]
  refine iter_up (fun z : Int × Unit × List PSSeen × Int × Bool => z.1) (llen s.2.1) (fun z => z.2.2 = (lrep z.1 seen0, (grt s, false))) (fun r => r = some (firstV s)) (by omega) (by simp) (by simp only; omega) rfl (fun z hI i0 i1 => ?_) (fun z hI hz => ?_)
  · obtain ⟨i, u, l, m, f⟩ := z
    simp only at hI i0 i1
    cases hI
    try simp only
    rw [cnd_pos _ _ (decide_eq_true i1), cnd_pos _ _ (room_snoc2 (l := lrep i seen0) (b := 24) (by rw [llen_lrep i0]; omega)), wr_i64 (i + 1) (by omega) (by omega)]
    refine ⟨rfl, ?_⟩
    try simp only
    rw [← lrep_snoc i0]; rfl
  · obtain ⟨i, u, l, m, f⟩ := z
    simp only at hI hz
    cases hI
    subst hz
    try simp only
    rw [cnd_neg _ _ (decide_eq_false (by omega))]
    rfl

/-! ## lights -/
def flashB (l : List Int) : Bool := decide (∀ a ∈ l, a = 4)
theorem flash_e {l : List Int} (hl : l.length ≤ maxLen) : safe_flash_t l = some (flashB l) := by
  unfold safe_flash_t flashB
  have conv : (∀ a ∈ l, a = 4) ↔ (∀ (i : Int) a, idx l i = some a → a = 4) := ⟨fun h i a ha => h a (idx_some_iff ha).2.2, fun h a ha => by obtain ⟨i, hi⟩ := mem_idx ha; exact h i a hi⟩
  refine iter_allQ (l := l) (fun r : Option Bool => r = some (decide (∀ a ∈ l, a = 4))) (fun _ a => a = 4) (some false) (some true) hl (fun i a h0 hi ha => ?_) (fun i hi => by (try simp only); rw [cnd_neg _ _ (decide_eq_false hi)]; rfl) (fun h => by rw [decide_eq_true (conv.2 h)]) (fun h => by rw [decide_eq_false (fun hh => h (conv.1 hh))])
  try simp only
  rw [cnd_pos _ _ (decide_eq_true hi), elimO_eq _ _ ha]
  by_cases c : a = 4
  · exact .inl ⟨c, by rw [cnd_neg _ _ (by simp [c])]⟩
  · exact .inr ⟨c, by rw [cnd_pos _ _ (by simp [c]), decide_eq_true h0]; rfl⟩

theorem contains_e {l : List Int} {v : Int} (hl : l.length ≤ maxLen) : slices_Contains___uint8_uint8__t (l, v) = some (decide (v ∈ l)) := by
  have hm : llen l ≤ 9223372036854775807 := maxLen_i64 hl
  unfold slices_Contains___uint8_uint8__t
  have key : ∃ j, slices_Index___uint8_uint8__t (l, v) = some j ∧ (0 ≤ j ↔ v ∈ l) := by
    unfold slices_Index___uint8_uint8__t
    refine iter_up (fun i : Int => i) (llen l) (fun i => ∀ j a, j < i → idx l j = some a → a ≠ v) (fun r : Option Int => ∃ j, r = some j ∧ (0 ≤ j ↔ v ∈ l)) (by omega) (by simp) (llen_nonneg l) (fun j a h1 h2 => by have := (idx_some_iff h2).1; omega) (fun i hI i0 i1 => ?_) (fun i hI hi => ?_)
    · have i0 : 0 ≤ i := i0
      have i1 : i < llen l := i1
      obtain ⟨a, ha, ham⟩ := idx_get i0 i1
      try simp only
      rw [cnd_pos _ _ (decide_eq_true i1), elimO_eq _ _ ha]
      by_cases c : v = a
      · rw [cnd_pos _ _ (by simpa using c)]
        exact ⟨i, rfl, fun _ => by rw [c]; exact ham, fun _ => i0⟩
      · rw [cnd_neg _ _ (by simpa using c), wr_i64 (i + 1) (by omega) (by omega)]
        refine ⟨rfl, fun j b h1 h2 => ?_⟩
        by_cases e : j = i
        · subst e; rw [ha] at h2; cases h2; exact fun h => c h.symm
        · exact hI j b (by omega) h2
    · have hi : i = llen l := hi
      try simp only
      rw [cnd_neg _ _ (decide_eq_false (by omega))]
      refine ⟨-1, rfl, fun h => by omega, fun h => ?_⟩
      obtain ⟨j, hj⟩ := mem_idx h
      exact absurd rfl (hI j v (by have := (idx_some_iff hj).2.1; omega) hj)
  obtain ⟨j, h1, h2⟩ := key
  rw [elimO_eq _ _ h1]
  congr 1
  exact decide_eq_decide.2 h2

theorem shown_e {now : PSSafe} (hl : llen now.1 ≤ 1000) : safe_shown_t now = some (now.1.map (·.1)) := by
  have hn := llen_nonneg now.1
  unfold safe_shown_t
  rw [cnd_pos _ _ (make_ok hn (by omega))]
  refine iter_up (fun z : Int × List Int => z.1) (llen now.1) (fun z => llen z.2 = llen now.1 ∧ ∀ j, 0 ≤ j → j < z.1 → idx z.2 j = idx (now.1.map (·.1)) j) (fun r => r = some (now.1.map (·.1))) (by omega) (by simp) hn ⟨llen_lrep hn _, fun j j0 j1 => absurd j1 (by simp only; omega)⟩ (fun z hI i0 i1 => ?_) (fun z hI hz => ?_)
  · obtain ⟨i, out⟩ := z
    obtain ⟨hlen, hj⟩ := hI
    simp only at i0 i1 hlen hj
    obtain ⟨x, hx, _⟩ := idx_get i0 i1
    obtain ⟨y, hy, _⟩ := idx_get (l := out) i0 (by omega)
    try simp only
    rw [cnd_pos _ _ (decide_eq_true i1), elimO_eq _ _ hx, elimO_eq _ _ hy, elimO_eq _ _ hy, wr_i64 (i + 1) (by omega) (by omega)]
    refine ⟨rfl, by (try simp only); rw [llen_lset]; exact hlen, fun j j0 j1 => ?_⟩
    simp only at j1 ⊢
    rw [idx_lset i0 (by omega)]
    split
    · rename_i e; rw [e, idx_map, hx]; rfl
    · exact hj j j0 (by omega)
  · obtain ⟨i, out⟩ := z
    obtain ⟨hlen, hj⟩ := hI
    simp only at hz hlen hj
    try simp only
    rw [cnd_neg _ _ (decide_eq_false (by omega))]
    show some out = _
    rw [idx_ext (m := now.1.map (·.1)) (by rw [llen_map]; exact hlen) fun j j0 j1 => hj j j0 (by omega)]

def MeetP (s : PSSite) (l : List Int) : Prop := ∃ a b x y, b < a ∧ idx l a = some x ∧ idx l b = some y ∧ x ≠ 1 ∧ y ≠ 1 ∧ apartB s a b = true

theorem meet_e {s : PSSite} {l : List Int} (h : SOK s) (hl : llen l = llen s.2.1) : ∃ r, safe_meet_t (s, l) = some r ∧ (r = true ↔ MeetP s l) := by
  have n2 := h.n2
  unfold safe_meet_t
  refine pairs_gen (llen l) (fun a => a) (fun a b => ∃ x y, idx l a = some x ∧ idx l b = some y ∧ x ≠ 1 ∧ y ≠ 1 ∧ apartB s a b = true) (some true) (some false) (fun r => ∃ b, r = some b ∧ (b = true ↔ MeetP s l)) (bad2 := .done none) (B := fun x1 x3 => (cnd (decide (x3 < x1))
(elimO (idx l x3) (.done (.done none)) (fun x4 =>
(letK (safe_red x4) (fun y1 =>
(cnd (!y1)
(elimO (safe_apart_t (s, (x1, x3))) (.done (.done none)) (fun x5 =>
(cnd x5
(.done (.done (some true)))
(.next (wr .i64 (x3 + 1))))))
(.next (wr .i64 (x3 + 1))))))))
(.done (.next (wr .i64 (x1 + 1)))))) (llen_nonneg l) (by omega) (fun a a0 a1 => ⟨a0, by omega⟩) (fun a a0 a1 => ?_) (by (try simp only); rw [cnd_neg _ _ (decide_eq_false (by omega))]) (fun a a0 a1 => by (try simp only); rw [cnd_neg _ _ (decide_eq_false (by omega))]) (fun ⟨a, b, a0, a1, b0, b1, x, y, q⟩ => ⟨true, rfl, fun _ => ⟨a, b, x, y, b1, q⟩, fun _ => rfl⟩) (fun hno => ⟨false, rfl, fun h => (by cases h), fun ⟨a, b, x, y, q0, q1, q2, q3⟩ => absurd ⟨x, y, q1, q2, q3⟩ (hno a b (idx_some_iff q1).1 (idx_some_iff q1).2.1 (idx_some_iff q2).1 q0)⟩)
  obtain ⟨x, hx, _⟩ := idx_get a0 a1
  try simp only
  rw [cnd_pos _ _ (decide_eq_true a1), elimO_eq _ _ hx, letK_app]
  by_cases c : x = 1
  · rw [cnd_pos _ _ (show safe_red x = true by rw [c]; rfl)]
    exact .inl ⟨rfl, fun b b0 b1 ⟨x', y, q1, q2, q3, _⟩ => by rw [hx] at q1; cases q1; exact q3 c⟩
  · rw [cnd_neg _ _ (show safe_red x = false by unfold safe_red; simpa using c)]
    refine .inr ⟨rfl, fun b b0 b1 => ?_⟩
    obtain ⟨y, hy, _⟩ := idx_get (l := l) b0 (by omega)
    rw [cnd_pos _ _ (decide_eq_true b1), elimO_eq _ _ hy, letK_app]
    by_cases c2 : y = 1
    · rw [cnd_neg _ _ (show (!(safe_red y)) = false by rw [c2]; rfl)]
      exact .inr ⟨fun ⟨x', y', q1, q2, q3, q4, _⟩ => by rw [hy] at q2; cases q2; exact q4 c2, rfl⟩
    · rw [cnd_pos _ _ (show (!(safe_red y)) = true by unfold safe_red; simpa using c2), elimO_eq _ _ (apart_e h a0 (by omega) b0 (by omega))]
      cases c3 : apartB s a b with
      | true => rw [cnd_pos _ _ rfl]; exact .inl ⟨⟨x, y, hx, hy, c, c2, rfl⟩, rfl⟩
      | false =>
        rw [cnd_neg _ _ rfl]
        exact .inr ⟨fun ⟨_, _, _, _, _, _, q⟩ => (by cases q), rfl⟩

def CloseP (s : PSSite) (ws : List PSSeen) (l : List Int) : Prop := ∃ i k w v, idx ws i = some w ∧ idx l i = some 2 ∧ w.1 ≠ 2 ∧ idx ws k = some v ∧ apartB s k i = true ∧ v.2.2 < betw s k i

theorem close_e {s : PSSite} {now : PSSafe} {l : List Int} (h : SOK s) (hw : llen now.1 = llen s.2.1) (hl : llen l = llen s.2.1) : ∃ r, safe_close_t (s, (now, l)) = some r ∧ (r = true ↔ CloseP s now.1 l) := by
  have n2 := h.n2
  have hwn := llen_nonneg now.1
  unfold safe_close_t
  refine pairs_gen (llen now.1) (fun _ => llen now.1) (fun i k => ∃ w v, idx now.1 i = some w ∧ idx l i = some 2 ∧ w.1 ≠ 2 ∧ idx now.1 k = some v ∧ apartB s k i = true ∧ v.2.2 < betw s k i) (some true) (some false) (fun r => ∃ b, r = some b ∧ (b = true ↔ CloseP s now.1 l)) (bad2 := .done none) (B := fun x1 x4 => (cnd (decide (x4 < (llen now.1)))
(elimO (idx now.1 x4) (.done (.done none)) (fun x5 =>
(elimO (safe_apart_t (s, (x4, x1))) (.done (.done none)) (fun x6 =>
(cnd x6
(elimO (safe_between_t (s, (x4, x1))) (.done (.done none)) (fun x7 =>
(cnd (decide (x5.2.2 < x7))
(.done (.done (some true)))
(.next (wr .i64 (x4 + 1))))))
(.next (wr .i64 (x4 + 1))))))))
(.done (.next (wr .i64 (x1 + 1)))))) hwn (by omega) (fun a a0 a1 => ⟨hwn, by omega⟩) (fun a a0 a1 => ?_) (by (try simp only); rw [cnd_neg _ _ (decide_eq_false (by omega))]) (fun a a0 a1 => by (try simp only); rw [cnd_neg _ _ (decide_eq_false (by omega))]) (fun ⟨a, b, a0, a1, b0, b1, w, v, q⟩ => ⟨true, rfl, fun _ => ⟨a, b, w, v, q⟩, fun _ => rfl⟩) (fun hno => ⟨false, rfl, fun h => (by cases h), fun ⟨i, k, w, v, q1, q2, q3, q4, q5⟩ => absurd ⟨w, v, q1, q2, q3, q4, q5⟩ (hno i k (idx_some_iff q1).1 (idx_some_iff q1).2.1 (idx_some_iff q4).1 (idx_some_iff q4).2.1)⟩)
  obtain ⟨w, hx, _⟩ := idx_get a0 a1
  obtain ⟨x, hx2, _⟩ := idx_get (l := l) a0 (by omega)
  try simp only
  rw [cnd_pos _ _ (decide_eq_true a1), elimO_eq _ _ hx, elimO_eq _ _ hx2]
  by_cases c : x = 2 ∧ w.1 ≠ 2
  · rw [cnd_neg _ _ (by simp [c.1, c.2])]
    refine .inr ⟨rfl, fun b b0 b1 => ?_⟩
    obtain ⟨v, hv, _⟩ := idx_get (l := now.1) b0 b1
    rw [cnd_pos _ _ (decide_eq_true b1), elimO_eq _ _ hv, elimO_eq _ _ (apart_e h b0 (by omega) a0 (by omega))]
    cases c3 : apartB s b a with
    | true =>
      rw [cnd_pos _ _ rfl, elimO_eq _ _ (between_e h b0 (by omega) a0 (by omega))]
      by_cases c4 : v.2.2 < betw s b a
      · rw [cnd_pos _ _ (decide_eq_true c4)]
        exact .inl ⟨⟨w, v, hx, by rw [hx2, c.1], c.2, hv, rfl, c4⟩, rfl⟩
      · rw [cnd_neg _ _ (decide_eq_false c4)]
        exact .inr ⟨fun ⟨_, v', _, _, _, q4, _, q6⟩ => by rw [hv] at q4; cases q4; exact c4 q6, rfl⟩
    | false =>
      rw [cnd_neg _ _ rfl]
      exact .inr ⟨fun ⟨_, _, _, _, _, _, q, _⟩ => (by cases q), rfl⟩
  · rw [cnd_pos _ _ (by
      simp only [Bool.or_eq_true, Bool.not_eq_true', beq_eq_false_iff_ne, ne_eq, beq_iff_eq]
      by_cases e : x = 2
      · exact .inr (Decidable.not_not.1 fun hh => c ⟨e, hh⟩)
      · exact .inl e)]
    exact .inl ⟨rfl, fun b b0 b1 ⟨w', v, q1, q2, q3, _⟩ => by rw [hx] at q1; cases q1; rw [hx2] at q2; cases q2; exact c ⟨rfl, q3⟩⟩

/-! ## faults -/
def mayL : List PSGroup → List PSSeen → List Int → Int
  | g :: gs, w :: ws, a :: as => if lamp_May (g, (w, a)) ≠ 0 then lamp_May (g, (w, a)) else mayL gs ws as
  | _, _, _ => 0

theorem may_gen {A : Type} {bad : A} {F : Int → Step Int A} {gs : List PSGroup} {ws : List PSSeen} {l : List Int} (fl : Bool) (out : Int → A) (R : A) (hg : llen gs = llen l) (hw : llen ws = llen l) (hl : llen l ≤ 1000)
    (hF : ∀ i g w a, 0 ≤ i → i < llen l → idx gs i = some g → idx ws i = some w → idx l i = some a → F i = cnd ((!(lamp_May (g, (w, a)) == 0)) && (!fl)) (.done (out (lamp_May (g, (w, a))))) (.next (wr .i64 (i + 1)))) (hFe : F (llen l) = .done R) :
    iter bad F lots 0 = if fl = false ∧ mayL gs ws l ≠ 0 then out (mayL gs ws l) else R := by
  refine iter_up (fun i : Int => i) (llen l) (fun i => fl = false → mayL gs ws l = mayL (gs.drop i.toNat) (ws.drop i.toNat) (l.drop i.toNat)) (fun r => r = if fl = false ∧ mayL gs ws l ≠ 0 then out (mayL gs ws l) else R) (by omega) (by simp) (llen_nonneg l) (fun _ => rfl) (fun i hI i0 i1 => ?_) (fun i hI hi => ?_)
  · have i0 : 0 ≤ i := i0
    have i1 : i < llen l := i1
    obtain ⟨g, hg', _⟩ := idx_get (l := gs) i0 (by omega)
    obtain ⟨w, hw', _⟩ := idx_get (l := ws) i0 (by omega)
    obtain ⟨a, ha, _⟩ := idx_get i0 i1
    rw [hF i g w a i0 i1 hg' hw' ha]
    by_cases c : fl = false ∧ lamp_May (g, (w, a)) ≠ 0
    · rw [cnd_pos _ _ (by simp [c.1, c.2])]
      have e := hI c.1
      rw [drop_idx hg', drop_idx hw', drop_idx ha, mayL, if_pos c.2] at e
      show out _ = _
      rw [e, if_pos c]
    · rw [cnd_neg _ _ (by
        simp only [Bool.and_eq_false_iff, Bool.not_eq_false', beq_iff_eq]
        cases fl with
        | true => exact .inr rfl
        | false => exact .inl (Decidable.not_not.1 fun hh => c ⟨rfl, hh⟩)), wr_i64 (i + 1) (by omega) (by omega)]
      refine ⟨rfl, fun hfl => ?_⟩
      have e := hI hfl
      rw [drop_idx hg', drop_idx hw', drop_idx ha, mayL, if_neg (fun hh => c ⟨hfl, hh⟩)] at e
      exact e
  · have hi : i = llen l := hi
    subst hi
    rw [hFe]
    show R = _
    rw [if_neg]
    rintro ⟨hfl, hne⟩
    have e := hI hfl
    rw [drop_end (l := l) (by omega)] at e
    apply hne
    rw [e]
    unfold mayL
    split
    · rename_i h3; cases h3
    · rfl

open Classical in
noncomputable def faultV (s : PSSite) (now : PSSafe) (l : List Int) : Int :=
  if llen l ≠ llen s.2.1 then 1 else if flashB l = true then 0 else if 4 ∈ l then 7 else
  if (now.2.2 = true ∨ 0 < now.2.1) ∧ ∃ a ∈ l, a ≠ 1 then 8 else
  if now.2.2 = false ∧ mayL s.2.1 now.1 l ≠ 0 then mayL s.2.1 now.1 l else
  if MeetP s l then 3 else if CloseP s now.1 l then 4 else 0

theorem red_loop {A : Type} {bad : A} {l : List Int} {F : Int → Step Int A} (P : A → Prop) (yes no : A) (hl : l.length ≤ maxLen)
    (hF : ∀ i a, 0 ≤ i → i < llen l → idx l i = some a → F i = cnd (!(safe_red a)) (.done yes) (.next (wr .i64 (i + 1)))) (hFe : ∀ i, ¬ i < llen l → F i = .done no) (hy : (∃ a ∈ l, a ≠ 1) → P yes) (hn : ¬ (∃ a ∈ l, a ≠ 1) → P no) : P (iter bad F lots 0) := by
  refine iter_allQ (l := l) P (fun _ a => a = 1) yes no hl (fun i a h0 hi ha => ?_) hFe (fun h => hn fun ⟨a, ha, hne⟩ => by obtain ⟨i, hi⟩ := mem_idx ha; exact hne (h i a hi)) (fun h => hy ?_)
  · rw [hF i a h0 hi ha]
    by_cases c : a = 1
    · exact .inl ⟨c, by rw [cnd_neg _ _ (show (!(safe_red a)) = false by rw [c]; rfl)]⟩
    · exact .inr ⟨c, by rw [cnd_pos _ _ (show (!(safe_red a)) = true by unfold safe_red; simpa using c)]⟩
  · apply Classical.byContradiction
    intro hn
    exact h fun i a ha => Classical.byContradiction fun hne => hn ⟨a, (idx_some_iff ha).2.2, hne⟩

theorem fault_e {s : PSSite} {now : PSSafe} {l : List Int} (h : SOK s) (hw : llen now.1 = llen s.2.1) (hl : l.length ≤ maxLen) : safe_fault_t (s, (now, l)) = some (faultV s now l) := by
  have n2 := h.n2
  unfold safe_fault_t faultV
  by_cases c1 : llen l = llen s.2.1
  · rw [cnd_neg _ _ (by simpa using c1), if_neg (by simpa using c1), elimO_eq _ _ (flash_e hl), cnd_if]
    by_cases c2 : flashB l = true
    · rw [if_pos c2, if_pos c2]
    · rw [if_neg c2, if_neg c2, elimO_eq _ _ (contains_e hl)]
      by_cases c3 : 4 ∈ l
      · rw [cnd_pos _ _ (decide_eq_true c3), if_pos c3]
      · rw [cnd_neg _ _ (decide_eq_false c3), if_neg c3, joinPt_app]
        have hR : iter none (fun x4 : Int =>
(cnd (decide (x4 < (llen now.1)))
(elimO (idx now.1 x4) (.done none) (fun x5 =>
(elimO (idx s.2.1 x4) (.done none) (fun x6 =>
(elimO (idx l x4) (.done none) (fun x7 =>
(letK (lamp_May (x6, (x5, x7))) (fun y =>
(cnd ((!(y == 0)) && (!now.2.2))
(.done (some y))
(.next (wr .i64 (x4 + 1))))))))))))
(.done (elimO (safe_meet_t (s, l)) none (fun x5 =>
(cnd x5
(some 3)
(elimO (safe_close_t (s, (now, l))) none (fun x6 =>
(cnd x6
(some 4)
(some 0)))))))))) lots 0 = some (if now.2.2 = false ∧ mayL s.2.1 now.1 l ≠ 0 then mayL s.2.1 now.1 l else @ite _ (MeetP s l) (Classical.propDecidable _) 3 (@ite _ (CloseP s now.1 l) (Classical.propDecidable _) 4 0)) := by
          obtain ⟨r, r1, r2⟩ := meet_e h c1
          obtain ⟨q, q1, q2⟩ := close_e h hw c1
          have hm := may_gen (bad := none) (gs := s.2.1) (ws := now.1) (l := l) (F := fun x4 : Int =>
(cnd (decide (x4 < (llen now.1)))
(elimO (idx now.1 x4) (.done none) (fun x5 =>
(elimO (idx s.2.1 x4) (.done none) (fun x6 =>
(elimO (idx l x4) (.done none) (fun x7 =>
(letK (lamp_May (x6, (x5, x7))) (fun y =>
(cnd ((!(y == 0)) && (!now.2.2))
(.done (some y))
(.next (wr .i64 (x4 + 1))))))))))))
(.done (elimO (safe_meet_t (s, l)) none (fun x5 =>
(cnd x5
(some 3)
(elimO (safe_close_t (s, (now, l))) none (fun x6 =>
(cnd x6
(some 4)
(some 0))))))))))  now.2.2 (fun y => some y) (some (@ite _ (MeetP s l) (Classical.propDecidable _) 3 (@ite _ (CloseP s now.1 l) (Classical.propDecidable _) 4 0))) (by omega) (by omega) (by omega) (fun i g w a i0 i1 hg hw' ha => by
            rw [cnd_pos _ _ (decide_eq_true (by omega)), elimO_eq _ _ hw', elimO_eq _ _ hg, elimO_eq _ _ ha, letK_app]) (by
            rw [cnd_neg _ _ (decide_eq_false (by omega)), elimO_eq _ _ r1, elimO_eq _ _ q1, cnd_if, cnd_if]
            congr 1
            by_cases cm : MeetP s l
            · rw [if_pos (r2.2 cm), if_pos cm]
            · rw [if_neg (fun hh => cm (r2.1 hh)), if_neg cm]
              by_cases cc : CloseP s now.1 l
              · rw [if_pos (q2.2 cc), if_pos cc]
              · rw [if_neg (fun hh => cc (q2.1 hh)), if_neg cc])
          rw [hm]
          split <;> rfl
        simp only [hR]
        rw [cnd_if]
        split
        · rename_i c4
          have c4 : now.2.2 = true ∨ 0 < now.2.1 := by simpa using c4
          refine red_loop (l := l) (fun r => r = some _) (some 8) (some (if now.2.2 = false ∧ mayL s.2.1 now.1 l ≠ 0 then mayL s.2.1 now.1 l else @ite _ (MeetP s l) (Classical.propDecidable _) 3 (@ite _ (CloseP s now.1 l) (Classical.propDecidable _) 4 0))) hl (fun i a i0 i1 ha => ?_) (fun i hi => ?_) (fun hex => ?_) (fun hne => ?_)
          · rw [cnd_pos _ _ (decide_eq_true i1), elimO_eq _ _ ha, letK_app, decide_eq_true i0]; rfl
          · rw [cnd_neg _ _ (decide_eq_false hi)]; rfl
          · exact (congrArg some (if_pos ⟨c4, hex⟩)).symm
          · exact (congrArg some (if_neg (fun hh => hne hh.2))).symm
        · rename_i c4
          have c4 : ¬ (now.2.2 = true ∨ 0 < now.2.1) := by simpa using c4
          exact (congrArg some (if_neg (fun hh => c4 hh.1))).symm
  · rw [cnd_pos _ _ (by simpa using c1), if_pos c1]

/-! ## one tick on -/
def nxt (w : PSSeen) (a : Int) : PSSeen := lamp_Next ((0, (0, 0)), (w, a))
theorem nxt_eq (g : PSGroup) (w : PSSeen) (a : Int) : lamp_Next (g, (w, a)) = nxt w a := rfl

def behindV (s : PSSite) (now : PSSafe) (l : List Int) : PSSafe :=
  (List.zipWith nxt now.1 l, (if flashB l = true then grt s else if now.2.2 = true then max 0 (grt s - 1) else max 0 (now.2.1 - 1), flashB l))

structure StOK (s : PSSite) (now : PSSafe) : Prop where
  n : llen now.1 = llen s.2.1
  lo : 0 ≤ now.2.1
  hi : now.2.1 ≤ 1048576

theorem behind_ok {s : PSSite} {now : PSSafe} {l : List Int} (h : SOK s) (hs : StOK s now) (hl : llen l = llen s.2.1) : StOK s (behindV s now l) := by
  have g := grt_is h
  have g1 := g.lo; have g2 := g.hi
  have h1 := hs.lo; have h2 := hs.hi
  unfold behindV
  refine ⟨by (try simp only); rw [llen_zipWith (by rw [hs.n, hl])]; exact hs.n, ?_, ?_⟩
  · simp only; repeat' split
    all_goals omega
  · simp only; repeat' split
    all_goals omega

theorem clone_seen_e {l : List PSSeen} (hl : llen l ≤ 1000) : clone_Seen_t l = some l := by
  unfold clone_Seen_t
  rw [cnd_pos _ _ (by rw [Bool.true_and]; exact room_le (by omega))]
  rfl

theorem behind_loop {s : PSSite} {ws : List PSSeen} {l : List Int} {A : Type} {bad : A} {F : Int × List PSSeen → Step (Int × List PSSeen) A} (K : List PSSeen → A) (P : A → Prop) (h : SOK s) (hw : llen ws = llen s.2.1) (hl : llen l = llen s.2.1)
    (hF : ∀ i out g w a y, 0 ≤ i → i < llen ws → idx s.2.1 i = some g → idx out i = some w → idx l i = some a → y = nxt w a → F (i, out) = .next (wr .i64 (i + 1), lset out i y)) (hFe : ∀ out, F (llen ws, out) = .done (K out)) (hK : P (K (List.zipWith nxt ws l))) : P (iter bad F lots (0, ws)) := by
  have n2 := h.n2
  refine iter_up (fun z : Int × List PSSeen => z.1) (llen ws) (fun z => llen z.2 = llen ws ∧ (∀ j, 0 ≤ j → j < z.1 → idx z.2 j = idx (List.zipWith nxt ws l) j) ∧ ∀ j, z.1 ≤ j → idx z.2 j = idx ws j) P (by omega) (by simp) (llen_nonneg ws) ⟨rfl, fun j j0 j1 => absurd j1 (by simp only; omega), fun j _ => rfl⟩ (fun z hI i0 i1 => ?_) (fun z hI hz => ?_)
  · obtain ⟨i, out⟩ := z
    obtain ⟨hlen, hj, hk⟩ := hI
    simp only at i0 i1 hlen hj hk
    obtain ⟨g, hg, _⟩ := idx_get (l := s.2.1) i0 (by omega)
    obtain ⟨w, hw', _⟩ := idx_get (l := ws) i0 i1
    obtain ⟨a, ha, _⟩ := idx_get (l := l) i0 (by omega)
    rw [hF i out g w a _ i0 i1 hg (by rw [hk i (by omega)]; exact hw') ha rfl, wr_i64 (i + 1) (by omega) (by omega)]
    refine ⟨rfl, by (try simp only); rw [llen_lset]; exact hlen, fun j j0 j1 => ?_, fun j hij => ?_⟩
    · simp only at j1 ⊢
      rw [idx_lset i0 (by omega)]
      split
      · rename_i e; rw [e, idx_zipWith hw' ha]
      · exact hj j j0 (by omega)
    · simp only at hij ⊢
      rw [idx_lset i0 (by omega), if_neg (by omega)]
      exact hk j (by omega)
  · obtain ⟨i, out⟩ := z
    obtain ⟨hlen, hj, _⟩ := hI
    simp only at hz hlen hj
    subst hz
    rw [hFe]
    have : out = List.zipWith nxt ws l := idx_ext (by rw [llen_zipWith (by rw [hw, hl])]; exact hlen) fun j j0 j1 => hj j j0 (by omega)
    rw [this]; exact hK

theorem behind_e {s : PSSite} {now : PSSafe} {l : List Int} (h : SOK s) (hs : StOK s now) (hl : llen l = llen s.2.1) : safe_behind_t (s, (now, l)) = some (behindV s now l) := by
  have n2 := h.n2
  have hwn := hs.n
  have s1 := hs.lo; have s2 := hs.hi
  have g := grt_is h
  have g1 := g.lo; have g2 := g.hi
  have hlm : l.length ≤ maxLen := by unfold llen at hl n2; unfold maxLen; omega
  unfold safe_behind_t
  rw [elimO_eq _ _ (clone_seen_e (l := now.1) (by omega)), elimO_eq _ _ (flash_e hlm)]
  refine behind_loop (s := s) (ws := now.1) (l := l) (fun out => cnd (flashB l) (elimO (safe_greatest_t s) none (fun x => some (out, (x, flashB l)))) (cnd now.2.2 (elimO (safe_greatest_t s) none (fun x => some (out, (gmax 0 (wr .i64 (x - 1)), flashB l)))) (some (out, (gmax 0 (wr .i64 (now.2.1 - 1)), flashB l))))) (fun r => r = some (behindV s now l)) h hwn hl (fun i out g w a y i0 i1 hg hw ha hy => ?_) (fun out => ?_) ?_
  · try simp only
    rw [cnd_pos _ _ (decide_eq_true i1), elimO_eq _ _ hw, elimO_eq _ _ hw, elimO_eq _ _ hg, elimO_eq _ _ ha, letK_app, elimO_eq _ _ hw, elimO_eq _ _ hw, nxt_eq, hy]
  · try simp only
    rw [cnd_neg _ _ (decide_eq_false (by omega))]
  · try simp only
    unfold behindV
    by_cases c : flashB l = true
    · rw [cnd_pos _ _ c, elimO_eq _ _ (grt_e h), if_pos c]
    · rw [cnd_neg _ _ (Bool.eq_false_iff.2 c), if_neg c]
      by_cases c2 : now.2.2 = true
      · rw [cnd_pos _ _ c2, elimO_eq _ _ (grt_e h), if_pos c2, gmax_eq, wr_i64 (grt s - 1) (by omega) (by omega)]
      · rw [cnd_neg _ _ (Bool.eq_false_iff.2 c2), if_neg c2, gmax_eq, wr_i64 (now.2.1 - 1) (by omega) (by omega)]

/-! ## traces -/
noncomputable def chk (s : PSSite) : PSSafe → Int → List (List Int) → Int × Int
  | _, _, [] => (-1, 0)
  | now, i, l :: r => @ite _ (faultV s now l ≠ 0) (Classical.propDecidable _) (i, faultV s now l) (chk s (behindV s now l) (i + 1) r)

theorem fault_len {s : PSSite} {now : PSSafe} {l : List Int} (h : faultV s now l = 0) : llen l = llen s.2.1 := by
  unfold faultV at h
  split at h
  · cases h
  · rename_i hh; exact Decidable.not_not.1 hh

theorem first_ok {s : PSSite} (h : SOK s) : StOK s (firstV s) := by
  have g := grt_is h
  have n1 := h.n1
  exact ⟨by unfold firstV; simp only; exact llen_lrep (by omega) _, g.lo, g.hi⟩

noncomputable def safeCheckR (e : Int) (s : PSSite) (tr : List (List Int)) : Int × Int × Int :=
  if e ≠ 0 then (0, (0, e)) else if 4096 < llen tr then (0, (0, 4)) else ((chk s (firstV s) 0 tr).1, ((chk s (firstV s) 0 tr).2, 0))

theorem safeFirst_e {s : PSSite} {e : Int} (hok : e = 0 → SOK s) (h : site_Check_t s = some e) : safe_First_t s = some (if e ≠ 0 then (([], (0, false)), e) else (firstV s, 0)) := by
  unfold safe_First_t
  rw [elimO_eq _ _ h]
  by_cases h0 : e = 0
  · subst h0; rw [cnd_neg _ _ (by rfl), if_neg (by simp), elimO_eq _ _ (first_e (hok rfl))]
  · rw [cnd_pos _ _ (by simp [h0]), if_pos h0]
structure MayP (s : PSSite) (now : PSSafe) : Prop where
  st : StOK s now
  ok : flashB (now.1.map (·.1)) = true ∨ ¬ MeetP s (now.1.map (·.1))

theorem may_e {s : PSSite} {now : PSSafe} (h : SOK s) (hl : llen now.1 ≤ 1000) : ∃ r, safe_may_t (s, now) = some r ∧ (r = true ↔ MayP s now) := by
  have hsl : (now.1.map (·.1)).length ≤ maxLen := by
    have := llen_map (l := now.1) (f := fun x => x.1)
    unfold llen at this hl; unfold maxLen; omega
  unfold safe_may_t
  rw [elimO_eq _ _ (shown_e hl), llen_map]
  by_cases c : llen now.1 = llen s.2.1 ∧ 0 ≤ now.2.1 ∧ now.2.1 ≤ 1048576
  · rw [cnd_pos _ _ (by simp [c]), elimO_eq _ _ (flash_e hsl)]
    cases cf : flashB (now.1.map (·.1)) with
    | true => exact ⟨true, rfl, fun _ => ⟨⟨c.1, c.2.1, c.2.2⟩, .inl cf⟩, fun _ => rfl⟩
    | false =>
      obtain ⟨r, r1, r2⟩ := meet_e (l := now.1.map (·.1)) h (by rw [llen_map]; exact c.1)
      rw [cnd_neg _ _ rfl, elimO_eq _ _ r1]
      refine ⟨!r, rfl, ?_⟩
      rw [Bool.not_eq_true']
      refine ⟨fun hr => ⟨⟨c.1, c.2.1, c.2.2⟩, .inr fun hm => by rw [r2.2 hm] at hr; cases hr⟩, fun hm => ?_⟩
      cases hr : r with
      | false => rfl
      | true =>
        rcases hm.ok with h1 | h1
        · rw [cf] at h1; cases h1
        · exact absurd (r2.1 hr) h1
  · rw [cnd_neg _ _ (by
      apply Bool.eq_false_iff.2
      intro hh
      simp only [Bool.and_eq_true, beq_iff_eq, decide_eq_true_eq] at hh
      exact c ⟨hh.1.1, hh.1.2, hh.2⟩)]
    exact ⟨false, rfl, fun h => (by cases h), fun hm => absurd ⟨hm.st.n, hm.st.lo, hm.st.hi⟩ c⟩

end Go.Proofs.YtfdnmjabjmedgaaDoor
