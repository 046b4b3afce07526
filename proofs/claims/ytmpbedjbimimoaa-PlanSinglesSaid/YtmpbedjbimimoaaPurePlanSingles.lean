/-
  The plain law of PlanSingles: what the Lean functions compute, and that the law answers true at every input. No condition.
-/
import Derived.Test.YtmpbedjbimimoaaPPlanSinglesx
namespace Go.Proofs.Ytmpbedjbimimoaa.PPlanSingles
open Go.RowKit Go.Proofs.YtmpbedjbimimoaaW.PrintWords Go.Proofs.YtmpbedjbimimoaaW.PrintLast Go.Proofs.YtmpbedjbimimoaaW.PrintMore
set_option linter.unusedVariables false

-- plain facts on the printed functions of geom
def mayP (b p y s t : Int) : Prop := 8 ≤ b ∧ b ≤ 20 ∧ 4 ≤ p ∧ p ≤ 8 ∧ 24 ≤ y ∧ y ≤ 64 ∧ 0 ≤ s ∧ s ≤ 4 ∧ 2 ≤ t ∧ t ≤ 20 ∧ 12 ≤ (b - s - 3) * p
instance (b p y s t : Int) : Decidable (mayP b p y s t) := by unfold mayP; infer_instance

theorem p_cases {p : Int} (h : 4 ≤ p) (h' : p ≤ 8) : p = 4 ∨ p = 5 ∨ p = 6 ∨ p = 7 ∨ p = 8 := by omega
theorem wid (x : Int) (h : -9223372036854775808 ≤ x ∧ x ≤ 9223372036854775807) : wrap64 x = x := by unfold wrap64; omega

theorem in_f (a b c : Int) : geom_in.f a b c = some (decide (b ≤ a ∧ a ≤ c)) := by
  unfold geom_in.f
  by_cases h : b ≤ a
  · simp [h]
  · simp [h]

theorem half_f (b p y s t : Int) (h1 : 8 ≤ b) (h2 : b ≤ 20) (h3 : 4 ≤ p) (h4 : p ≤ 8) (h5 : 0 ≤ s) (h6 : s ≤ 4) : geom_half.f b p y s t = some (((b - s - 3) * p - 4) / 2) := by
  unfold geom_half.f
  rw [wid (b - s) (by omega), wid (b - s - 3) (by omega)]
  rcases p_cases h3 h4 with rfl | rfl | rfl | rfl | rfl
  all_goals
    rw [wid ((b - s - 3) * _) (by omega), wid (_ - 4) (by omega), Int.tdiv_eq_ediv_of_nonneg (by omega), wid _ (by omega)]

theorem may_f (b p y s t : Int) : geom_May.f b p y s t = some (decide (mayP b p y s t)) := by
  unfold geom_May.f
  simp only [in_f, Option.bind_some]
  by_cases c1 : 8 ≤ b ∧ b ≤ 20
  · by_cases c2 : 4 ≤ p ∧ p ≤ 8
    · by_cases c3 : 24 ≤ y ∧ y ≤ 64
      · by_cases c4 : 0 ≤ s ∧ s ≤ 4
        · by_cases c5 : 2 ≤ t ∧ t ≤ 20
          · rw [half_f b p y s t c1.1 c1.2 c2.1 c2.2 c4.1 c4.2]
            simp only [decide_eq_true c1, decide_eq_true c2, decide_eq_true c3, decide_eq_true c4, decide_eq_true c5, if_true, Option.bind_some]
            refine congrArg some ?_
            rw [decide_eq_decide]
            unfold mayP
            omega
          · simp only [decide_eq_true c1, decide_eq_true c2, decide_eq_true c3, decide_eq_true c4, decide_eq_false c5, if_true]
            exact congrArg some (decide_eq_false (fun h => c5 (by unfold mayP at h; omega))).symm
        · simp only [decide_eq_true c1, decide_eq_true c2, decide_eq_true c3, decide_eq_false c4, if_true]
          exact congrArg some (decide_eq_false (fun h => c4 (by unfold mayP at h; omega))).symm
      · simp only [decide_eq_true c1, decide_eq_true c2, decide_eq_false c3, if_true]
        exact congrArg some (decide_eq_false (fun h => c3 (by unfold mayP at h; omega))).symm
    · simp only [decide_eq_true c1, decide_eq_false c2, if_true]
      exact congrArg some (decide_eq_false (fun h => c2 (by unfold mayP at h; omega))).symm
  · simp only [decide_eq_false c1]
    exact congrArg some (decide_eq_false (fun h => c1 (by unfold mayP at h; omega))).symm




-- plain facts on faults
def at4 (fs : List S41) (i : Nat) : S41 := fs.getD i z41
theorem rd_at (fs : List S41) (i : Nat) : rd_T41 fs (i : Int) = at4 fs i := by unfold rd_T41 at4; rw [Int.toNat_natCast]
theorem at_take4 (fs : List S41) (m i : Nat) (h : i < m) : at4 (fs.take m) i = at4 fs i := by
  unfold at4
  rw [List.getD_eq_getElem?_getD, List.getElem?_take, if_pos h, List.getD_eq_getElem?_getD]

theorem idx_from (fs : List S41) (x : Int) (hn : fs.length ≤ 1000) (d : Nat) : ∀ (k i : Nat), i + d = fs.length → d < k →
    (plan_find_idx.l0 k fs x i = some (-1) ∧ ∀ j, i ≤ j → j < fs.length → (at4 fs j).f0 ≠ x) ∨ ∃ j : Nat, i ≤ j ∧ j < fs.length ∧ (at4 fs j).f0 = x ∧ (∀ m, i ≤ m → m < j → (at4 fs m).f0 ≠ x) ∧ plan_find_idx.l0 k fs x i = some (j : Int) := by
  induction d with
  | zero =>
    intro k i hi hk
    obtain ⟨k, rfl⟩ : ∃ m, k = m + 1 := ⟨k - 1, by omega⟩
    refine .inl ⟨?_, fun j _ _ => by omega⟩
    simp only [plan_find_idx.l0]
    rw [if_neg (by omega)]
  | succ d ih =>
    intro k i hi hk
    obtain ⟨k, rfl⟩ : ∃ m, k = m + 1 := ⟨k - 1, by omega⟩
    have e : plan_find_idx.l0 (k + 1) fs x i = if ((at4 fs i).f0 == x) = true then some (i : Int) else plan_find_idx.l0 k fs x ((i + 1 : Nat) : Int) := by
      conv => lhs; unfold plan_find_idx.l0
      rw [if_pos (by omega), if_pos (by omega), rd_at, wid ((i : Int) + 1) (by omega)]
      rfl
    rw [e]
    by_cases c : (at4 fs i).f0 = x
    · refine .inr ⟨i, Nat.le_refl _, by omega, c, fun m h1 h2 => by omega, ?_⟩
      rw [if_pos (beq_iff_eq.2 c)]
    · rw [if_neg (fun h => c (beq_iff_eq.1 h))]
      rcases ih k (i + 1) (by omega) (by omega) with ⟨h1, h2⟩ | ⟨j, h1, h2, h3, h4, h5⟩
      · refine .inl ⟨h1, fun j a b => ?_⟩
        rcases Nat.lt_or_ge i j with q | q
        · exact h2 j q b
        · rw [show j = i by omega]; exact c
      · refine .inr ⟨j, by omega, h2, h3, fun m a b => ?_, h5⟩
        rcases Nat.lt_or_ge i m with q | q
        · exact h4 m q b
        · rw [show m = i by omega]; exact c

/-- find: either no fault is of this block, or the first one that is. -/
theorem find_cases (k : Nat) (fs : List S41) (x : Int) (hn : fs.length ≤ 1000) (hk : fs.length < k) :
    (plan_find.f k fs x = some (0, false, 0, false) ∧ ∀ j, j < fs.length → (at4 fs j).f0 ≠ x) ∨ ∃ j : Nat, j < fs.length ∧ (at4 fs j).f0 = x ∧ (∀ m, m < j → (at4 fs m).f0 ≠ x) ∧ plan_find.f k fs x = some ((at4 fs j).f0, (at4 fs j).f1, (at4 fs j).f2, true) := by
  unfold plan_find.f
  rcases idx_from fs x hn fs.length k 0 (Nat.zero_add _) hk with ⟨h1, h2⟩ | ⟨j, _, h2, h3, h4, h5⟩
  · rw [show ((0 : Nat) : Int) = 0 from rfl] at h1
    rw [h1, Option.bind_some, if_pos (by omega)]
    exact .inl ⟨rfl, fun j h => h2 j (Nat.zero_le _) h⟩
  · rw [show ((0 : Nat) : Int) = 0 from rfl] at h5
    rw [h5, Option.bind_some, if_neg (by omega), if_pos (by omega), rd_at]
    exact .inr ⟨j, h2, h3, fun m h => h4 m (Nat.zero_le _) h, rfl⟩

def okB (b : Int) (x : S41) : Bool := decide (¬ x.f0 < 0 ∧ ¬ x.f0 ≥ b ∧ ¬ x.f2 < 0 ∧ ¬ x.f2 > 1073741824 ∧ (x.f1 = true → x.f2 = 0))
def dupTo (fs : List S41) (i : Nat) : Nat → Bool
  | 0 => false
  | m + 1 => dupTo fs i m || decide ((at4 fs m).f0 = (at4 fs i).f0)
def passB (fs : List S41) (b : Int) (i : Nat) : Bool := okB b (at4 fs i) && !dupTo fs i i
def restB (fs : List S41) (b : Int) (i : Nat) : Nat → Bool
  | 0 => true
  | d + 1 => passB fs b i && restB fs b (i + 1) d

theorem dup_false (fs : List S41) (i m : Nat) : dupTo fs i m = false ↔ ∀ j, j < m → (at4 fs j).f0 ≠ (at4 fs i).f0 := by
  induction m with
  | zero => exact ⟨fun _ j h => by omega, fun _ => rfl⟩
  | succ m ih =>
    rw [dupTo, Bool.or_eq_false_iff, ih, decide_eq_false_iff_not]
    exact ⟨fun ⟨h1, h2⟩ j hj => by
      rcases Nat.lt_or_ge j m with c | c
      · exact h1 j c
      · rw [show j = m by omega]; exact h2, fun h => ⟨fun j hj => h j (by omega), h m (by omega)⟩⟩

theorem rest_true (fs : List S41) (b : Int) (d : Nat) : ∀ i, restB fs b i d = true ↔ ∀ j, i ≤ j → j < i + d → passB fs b j = true := by
  induction d with
  | zero => exact fun i => ⟨fun _ j h1 h2 => by omega, fun _ => rfl⟩
  | succ d ih =>
    intro i
    rw [restB, Bool.and_eq_true, ih]
    exact ⟨fun ⟨h1, h2⟩ j a c => by
      rcases Nat.lt_or_ge i j with q | q
      · exact h2 j q (by omega)
      · rw [show j = i by omega]; exact h1, fun h => ⟨h i (Nat.le_refl _) (by omega), fun j a c => h j (by omega) (by omega)⟩⟩

theorem may_from (fs : List S41) (b p y s t : Int) (hn : fs.length ≤ 20) (d : Nat) : ∀ (k i : Nat), i + d = fs.length → d + 50 < k → plan_May.l0 k fs fs fs.length i b p y s t = some (restB fs b i d) := by
  induction d with
  | zero =>
    intro k i hi hk
    obtain ⟨k, rfl⟩ : ∃ m, k = m + 1 := ⟨k - 1, by omega⟩
    simp only [plan_May.l0]
    rw [if_neg (by omega)]
    rfl
  | succ d ih =>
    intro k i hi hk
    obtain ⟨k, rfl⟩ : ∃ m, k = m + 1 := ⟨k - 1, by omega⟩
    have nx := ih k (i + 1) (by omega) (by omega)
    rw [show ((i + 1 : Nat) : Int) = (i : Int) + 1 by omega] at nx
    conv => lhs; unfold plan_May.l0
    have hl : (fs.take i).length = i := by rw [List.length_take]; omega
    rw [if_pos (by omega), if_pos (by omega), if_pos (by omega), if_pos (by omega), Int.toNat_natCast, rd_at, wid ((i : Int) + 1) (by omega), restB]
    have hdup : ∀ r, plan_find.f k (fs.take i) (at4 fs i).f0 = some r → r.2.2.2 = dupTo fs i i := by
      intro r hr
      rcases find_cases k (fs.take i) (at4 fs i).f0 (by omega) (by omega) with ⟨h1, h2⟩ | ⟨j, h1, h2, h3, h4⟩
      · rw [h1] at hr
        have : dupTo fs i i = false := (dup_false fs i i).2 fun j hj => by have := h2 j (by omega); rw [at_take4 fs i j hj] at this; exact this
        rw [this, ← Option.some.inj hr]
      · rw [h4] at hr
        rw [at_take4 fs i j (by omega)] at h2
        have : dupTo fs i i = true := by
          cases q : dupTo fs i i with
          | true => rfl
          | false => exact absurd h2 ((dup_false fs i i).1 q j (by omega))
        rw [this, ← Option.some.inj hr]
    obtain ⟨r, hr⟩ : ∃ r, plan_find.f k (fs.take i) (at4 fs i).f0 = some r := by
      rcases find_cases k (fs.take i) (at4 fs i).f0 (by omega) (by omega) with ⟨h1, _⟩ | ⟨_, _, _, _, h4⟩
      · exact ⟨_, h1⟩
      · exact ⟨_, h4⟩
    rw [hr, Option.bind_some, hdup r hr]
    have no : passB fs b i = false → (some false : Option Bool) = some (passB fs b i && restB fs b (i + 1) d) := fun h => by rw [h]; rfl
    by_cases c0 : dupTo fs i i = true
    · rw [if_pos c0]; exact no (by unfold passB; rw [c0, Bool.not_true, Bool.and_false])
    rw [if_neg c0]
    have bad : ¬ (¬ (at4 fs i).f0 < 0 ∧ ¬ (at4 fs i).f0 ≥ b ∧ ¬ (at4 fs i).f2 < 0 ∧ ¬ (at4 fs i).f2 > 1073741824 ∧ ((at4 fs i).f1 = true → (at4 fs i).f2 = 0)) → passB fs b i = false := fun h => by
      unfold passB okB; rw [decide_eq_false h, Bool.false_and]
    have good : (¬ (at4 fs i).f0 < 0 ∧ ¬ (at4 fs i).f0 ≥ b ∧ ¬ (at4 fs i).f2 < 0 ∧ ¬ (at4 fs i).f2 > 1073741824 ∧ ((at4 fs i).f1 = true → (at4 fs i).f2 = 0)) → some (restB fs b (i + 1) d) = some (passB fs b i && restB fs b (i + 1) d) := fun h => by
      unfold passB okB; rw [decide_eq_true h, Bool.eq_false_iff.mpr c0]; rfl
    by_cases c1 : (at4 fs i).f0 < 0
    · rw [if_pos c1]; exact no (bad fun h => h.1 c1)
    rw [if_neg c1]
    by_cases c2 : (at4 fs i).f0 ≥ b
    · rw [if_pos c2]; exact no (bad fun h => h.2.1 c2)
    rw [if_neg c2]
    by_cases c3 : (at4 fs i).f2 < 0
    · rw [if_pos c3]; exact no (bad fun h => h.2.2.1 c3)
    rw [if_neg c3]
    by_cases c4 : (at4 fs i).f2 > 1073741824
    · rw [if_pos c4]; exact no (bad fun h => h.2.2.2.1 c4)
    rw [if_neg c4]
    by_cases c5 : (at4 fs i).f1 = true
    · rw [if_pos c5]
      by_cases c6 : (at4 fs i).f2 = 0
      · rw [if_pos c6, nx]; exact good ⟨c1, c2, c3, c4, fun _ => c6⟩
      · rw [if_neg c6]; exact no (bad fun h => c6 (h.2.2.2.2 c5))
    · rw [if_neg c5, nx]; exact good ⟨c1, c2, c3, c4, fun h => absurd h c5⟩

def mayV (b p y s t : Int) (fs : List S41) : Bool := decide (mayP b p y s t) && (!decide (fs.length > 8) && restB fs b 0 fs.length)

theorem plan_may (k : Nat) (b p y s t : Int) (fs : List S41) (hn : fs.length ≤ 20) (hk : 100 ≤ k) : plan_May.f k b p y s t fs = some (mayV b p y s t fs) := by
  obtain ⟨k, rfl⟩ : ∃ m, k = m + 1 := ⟨k - 1, by omega⟩
  unfold plan_May.f mayV
  rw [may_f, Option.bind_some]
  simp only [plan_May.j0]
  by_cases h : mayP b p y s t
  · rw [decide_eq_true h, if_pos rfl, Bool.true_and]
    by_cases c : fs.length > 8
    · rw [decide_eq_true (show (fs.length : Int) > 8 by omega), decide_eq_true c, if_pos rfl]; rfl
    · rw [decide_eq_false (show ¬ (fs.length : Int) > 8 by omega), decide_eq_false c, if_neg (by decide)]
      exact may_from fs b p y s t hn fs.length k 0 (Nat.zero_add _) (by omega)
  · rw [decide_eq_false h]; rfl

theorem may_parts {b p y s t : Int} {fs : List S41} (h : mayV b p y s t fs = true) : mayP b p y s t ∧ fs.length ≤ 8 ∧ (∀ i, i < fs.length → okB b (at4 fs i) = true) ∧ ∀ i j, i < fs.length → j < fs.length → (at4 fs i).f0 = (at4 fs j).f0 → i = j := by
  unfold mayV at h
  rw [Bool.and_eq_true, Bool.and_eq_true, Bool.not_eq_true', decide_eq_true_eq, decide_eq_false_iff_not, rest_true] at h
  obtain ⟨h1, h2, h3⟩ := h
  have pass : ∀ i, i < fs.length → okB b (at4 fs i) = true ∧ ∀ j, j < i → (at4 fs j).f0 ≠ (at4 fs i).f0 := fun i hi => by
    have := h3 i (Nat.zero_le _) (by omega)
    unfold passB at this
    rw [Bool.and_eq_true, Bool.not_eq_true', dup_false] at this
    exact this
  refine ⟨h1, by omega, fun i hi => (pass i hi).1, fun i j hi hj e => ?_⟩
  rcases Nat.lt_trichotomy i j with c | c | c
  · exact absurd e ((pass j hj).2 i c)
  · exact c
  · exact absurd e.symm ((pass i hi).2 j c)

theorem may_of {b p y s t : Int} {fs : List S41} (h1 : mayP b p y s t) (h2 : fs.length ≤ 8) (h3 : ∀ i, i < fs.length → okB b (at4 fs i) = true) (h4 : ∀ i j, i < fs.length → j < fs.length → (at4 fs i).f0 = (at4 fs j).f0 → i = j) : mayV b p y s t fs = true := by
  unfold mayV
  rw [Bool.and_eq_true, Bool.and_eq_true, Bool.not_eq_true', decide_eq_true_eq, decide_eq_false_iff_not, rest_true]
  refine ⟨h1, by omega, fun j _ hj => ?_⟩
  unfold passB
  rw [Bool.and_eq_true, Bool.not_eq_true', dup_false]
  exact ⟨h3 j (by omega), fun i hi e => by have := h4 i j (by omega) (by omega) e; omega⟩

/-- Fails and Bad, in the two cases. -/
theorem fails_cases (k : Nat) (fs : List S41) (x t : Int) (hn : fs.length ≤ 1000) (hk : fs.length < k) :
    (plan_Fails.f k fs x t = some false ∧ plan_Bad.f k fs x = some false ∧ ∀ j, j < fs.length → (at4 fs j).f0 ≠ x) ∨ ∃ j : Nat, j < fs.length ∧ (at4 fs j).f0 = x ∧ (∀ m, m < j → (at4 fs m).f0 ≠ x) ∧ plan_Fails.f k fs x t = some (decide (t ≥ (at4 fs j).f2)) ∧ plan_Bad.f k fs x = some (at4 fs j).f1 := by
  unfold plan_Fails.f plan_Bad.f
  rcases find_cases k fs x hn hk with ⟨h1, h2⟩ | ⟨j, h1, h2, h3, h4⟩
  · rw [h1]
    exact .inl ⟨rfl, rfl, h2⟩
  · rw [h4]
    exact .inr ⟨j, h1, h2, h3, rfl, rfl⟩

theorem awake_f (k : Nat) (hk : 60 ≤ k) : jotterlaw6_awake.f k = some true :=
  at_rounds (g := jotterlaw6_awake.f) jotterlaw6_awake.mono hk (by decide +kernel)


theorem low_f (x n : Int) (h0 : 1 ≤ n) (h1 : n ≤ 1000) : ∃ r, jotterlaw0_Low.f x n = some r ∧ 0 ≤ r ∧ r < n := by
  unfold jotterlaw0_Low.f
  have e : IntKind.u64.wrap n = n := by
    show n % 18446744073709551616 = n
    omega
  have hx : 0 ≤ IntKind.u64.wrap x := by
    show 0 ≤ x % 18446744073709551616
    omega
  rw [e, if_neg (by omega), Int.tmod_eq_emod_of_nonneg hx]
  have h2 : 0 ≤ IntKind.u64.wrap x % n := Int.emod_nonneg _ (by omega)
  have h3 : IntKind.u64.wrap x % n < n := Int.emod_lt_of_pos _ (by omega)
  refine ⟨_, rfl, ?_⟩
  rw [wid _ (by omega)]
  exact ⟨h2, h3⟩

/-- What Fails and Bad tell, where the blocks are unlike. -/
theorem tells (k : Nat) (fs : List S41) (x t : Int) (hn : fs.length ≤ 20) (hk : 100 ≤ k) (hu : ∀ i j, i < fs.length → j < fs.length → (at4 fs i).f0 = (at4 fs j).f0 → i = j) :
    ∃ r1 r2, plan_Fails.f k fs x t = some r1 ∧ plan_Bad.f k fs x = some r2 ∧ (r1 = true ↔ ∃ j, j < fs.length ∧ (at4 fs j).f0 = x ∧ t ≥ (at4 fs j).f2) ∧ (r2 = true ↔ ∃ j, j < fs.length ∧ (at4 fs j).f0 = x ∧ (at4 fs j).f1 = true) := by
  rcases fails_cases k fs x t (by omega) (by omega) with ⟨g1, g2, g3⟩ | ⟨j, g1, g2, g3, g4, g5⟩
  · exact ⟨false, false, g1, g2, ⟨(fun h => by cases h), (fun ⟨j, hj, e, _⟩ => absurd e (g3 j hj))⟩, ⟨(fun h => by cases h), (fun ⟨j, hj, e, _⟩ => absurd e (g3 j hj))⟩⟩
  · refine ⟨_, _, g4, g5, ?_, ?_⟩
    · rw [decide_eq_true_eq]
      exact ⟨(fun z => ⟨j, g1, g2, z⟩), (fun ⟨m, hm, e, z⟩ => by rw [hu j m g1 hm (g2.trans e.symm)]; exact z)⟩
    · exact ⟨(fun z => ⟨j, g1, g2, z⟩), (fun ⟨m, hm, e, z⟩ => by rw [hu j m g1 hm (g2.trans e.symm)]; exact z)⟩

theorem one_at (q : S41) (i : Nat) (h : i < [q].length) : at4 [q] i = q := by
  have : i = 0 := by rw [List.length_singleton] at h; omega
  subst this
  rfl

theorem turned (fs : List S41) (n i : Nat) (hn : n ≤ fs.length) (hi : i < fs.length) : at4 (fs.drop n ++ fs.take n) i = at4 fs (if i < fs.length - n then n + i else i - (fs.length - n)) := by
  unfold at4
  rw [List.getD_eq_getElem?_getD, List.getD_eq_getElem?_getD]
  by_cases c : i < fs.length - n
  · rw [if_pos c, List.getElem?_append_left (by rw [List.length_drop]; omega), List.getElem?_drop]
  · rw [if_neg c, List.getElem?_append_right (by rw [List.length_drop]; omega), List.length_drop, List.getElem?_take, if_pos (by omega)]

theorem bool_iff {a b : Bool} (h : a = true ↔ b = true) : a = b := by cases a <;> cases b <;> simp_all

section
variable (fs : List S41) (x d turn b p y s t : Int) (hp : mayP b p y s t) (hn : fs.length ≤ 8) (hok : ∀ i, i < fs.length → okB b (at4 fs i) = true) (hu : ∀ i j, i < fs.length → j < fs.length → (at4 fs i).f0 = (at4 fs j).f0 → i = j)
include hp hn hok hu

theorem fin (k : Nat) (r1 r2 : Bool) (hk : 200 ≤ k) (h1 : r1 = true ↔ ∃ j, j < fs.length ∧ (at4 fs j).f0 = x ∧ d ≥ (at4 fs j).f2) (h2 : r2 = true ↔ ∃ j, j < fs.length ∧ (at4 fs j).f0 = x ∧ (at4 fs j).f1 = true) :
    jotterlaw6_PlanSingles.l0 (k + 1) fs x d turn r1 r2 fs.length b p y s t = some true := by
  conv => lhs; unfold jotterlaw6_PlanSingles.l0
  rw [if_neg (by omega), wid ((fs.length : Int) + 1) (by omega)]
  obtain ⟨n, e, n0, n1⟩ := low_f turn ((fs.length : Int) + 1) (by omega) (by omega)
  obtain ⟨n, rfl⟩ := Int.eq_ofNat_of_zero_le n0
  have hl : (fs.drop n ++ fs.take n).length = fs.length := by rw [List.length_append, List.length_drop, List.length_take]; omega
  have ht : ∀ i, i < fs.length → (if i < fs.length - n then n + i else i - (fs.length - n)) < fs.length := fun i hi => by split <;> omega
  have ok' : ∀ i, i < (fs.drop n ++ fs.take n).length → okB b (at4 (fs.drop n ++ fs.take n) i) = true := fun i hi => by
    rw [turned fs n i (by omega) (by omega)]; exact hok _ (ht i (by omega))
  have hu' : ∀ i j, i < (fs.drop n ++ fs.take n).length → j < (fs.drop n ++ fs.take n).length → (at4 (fs.drop n ++ fs.take n) i).f0 = (at4 (fs.drop n ++ fs.take n) j).f0 → i = j := fun i j hi hj e => by
    rw [turned fs n i (by omega) (by omega), turned fs n j (by omega) (by omega)] at e
    have := hu _ _ (ht i (by omega)) (ht j (by omega)) e
    split at this <;> split at this <;> omega
  have back : ∀ Q : S41 → Prop, (∃ j, j < (fs.drop n ++ fs.take n).length ∧ Q (at4 (fs.drop n ++ fs.take n) j)) ↔ ∃ j, j < fs.length ∧ Q (at4 fs j) := fun Q => by
    constructor
    · rintro ⟨j, hj, q⟩
      rw [turned fs n j (by omega) (by omega)] at q
      exact ⟨_, ht j (by omega), q⟩
    · rintro ⟨j, hj, q⟩
      refine ⟨if j < n then fs.length - n + j else j - n, by rw [hl]; split <;> omega, ?_⟩
      rw [turned fs n _ (by omega) (by split <;> omega)]
      have : (if (if j < n then fs.length - n + j else j - n) < fs.length - n then n + (if j < n then fs.length - n + j else j - n) else (if j < n then fs.length - n + j else j - n) - (fs.length - n)) = j := by
        by_cases c : j < n
        · rw [if_pos c, if_neg (by omega)]; omega
        · rw [if_neg c, if_pos (by omega)]; omega
      rw [this]
      exact q
  have may' := may_of hp (by omega) ok' hu'
  obtain ⟨f1, f2, e1, e2, q1, q2⟩ := tells k fs x d (by omega) (by omega) hu
  obtain ⟨g1, g2, e3, e4, q3, q4⟩ := tells k (fs.drop n ++ fs.take n) x d (by omega) (by omega) hu'
  have z1 : f1 = r1 := bool_iff (q1.trans h1.symm)
  have z2 : f2 = r2 := bool_iff (q2.trans h2.symm)
  have z3 : g1 = r1 := bool_iff (q3.trans ((back fun v => v.f0 = x ∧ d ≥ v.f2).trans h1.symm))
  have z4 : g2 = r2 := bool_iff (q4.trans ((back fun v => v.f0 = x ∧ v.f1 = true).trans h2.symm))
  subst z1 z2 z3 z4
  have hm := plan_may k b p y s t (fs.drop n ++ fs.take n) (by omega) (by omega)
  rw [may'] at hm
  have l1 : (fs.drop n).length ≤ fs.length := by rw [List.length_drop]; omega
  have l2 : (fs.take n).length ≤ fs.length := by rw [List.length_take]; omega
  unfold plan_Many.f
  rw [e, Option.bind_some, if_pos (by omega), if_pos (by omega)]
  simp only [Option.bind_some, Int.toNat_natCast, List.nil_append]
  rw [if_pos (by rw [List.length_nil]; omega), if_pos (by omega), e1, e2, hm, e3, e4, awake_f k (by omega), hl]
  simp only [Option.bind_some, beq_self_eq_true, if_true]

theorem loop_f (r : Nat) : ∀ (k i : Nat) (r1 r2 : Bool), i + r = fs.length → 2 * r + 300 < k → (r1 = true ↔ ∃ j, j < i ∧ (at4 fs j).f0 = x ∧ d ≥ (at4 fs j).f2) → (r2 = true ↔ ∃ j, j < i ∧ (at4 fs j).f0 = x ∧ (at4 fs j).f1 = true) →
    jotterlaw6_PlanSingles.l0 k fs x d turn r1 r2 i b p y s t = some true := by
  induction r with
  | zero =>
    intro k i r1 r2 hi hk h1 h2
    obtain ⟨k, rfl⟩ : ∃ m, k = m + 1 := ⟨k - 1, by omega⟩
    obtain rfl : i = fs.length := by omega
    exact fin fs x d turn b p y s t hp hn hok hu k r1 r2 (by omega) h1 h2
  | succ r ih =>
    intro k i r1 r2 hi hk h1 h2
    obtain ⟨k, rfl⟩ : ∃ m, k = m + 2 := ⟨k - 2, by omega⟩
    have one_u : ∀ i' j, i' < [at4 fs i].length → j < [at4 fs i].length → (at4 [at4 fs i] i').f0 = (at4 [at4 fs i] j).f0 → i' = j := fun i' j a c _ => by rw [List.length_singleton] at a c; omega
    have m1 : mayV b p y s t [at4 fs i] = true := may_of hp (by rw [List.length_singleton]; omega) (fun j hj => by rw [one_at _ j hj]; exact hok i (by omega)) one_u
    have pm := plan_may (k + 1) b p y s t [at4 fs i] (by rw [List.length_singleton]; omega) (by omega)
    rw [m1] at pm
    obtain ⟨f1, f2, e1, e2, q1, q2⟩ := tells k [at4 fs i] x d (by rw [List.length_singleton]; omega) (by omega) one_u
    have s1 : ∀ Q : S41 → Prop, (∃ j, j < [at4 fs i].length ∧ Q (at4 [at4 fs i] j)) ↔ Q (at4 fs i) := fun Q =>
      ⟨fun ⟨j, hj, q⟩ => by rw [one_at _ j hj] at q; exact q, fun q => ⟨0, by rw [List.length_singleton]; omega, q⟩⟩
    have q1 := q1.trans (s1 fun v => v.f0 = x ∧ d ≥ v.f2)
    have q2 := q2.trans (s1 fun v => v.f0 = x ∧ v.f1 = true)
    have grow : ∀ (Q : S41 → Prop) (u v : Bool), (u = true ↔ ∃ j, j < i ∧ Q (at4 fs j)) → (v = true ↔ Q (at4 fs i)) → ((u || v) = true ↔ ∃ j, j < i + 1 ∧ Q (at4 fs j)) := fun Q u v hu hv => by
      rw [Bool.or_eq_true, hu, hv]
      exact ⟨fun h => by
        rcases h with ⟨j, hj, q⟩ | q
        · exact ⟨j, by omega, q⟩
        · exact ⟨i, by omega, q⟩, fun ⟨j, hj, q⟩ => by
        rcases Nat.lt_or_ge j i with z | z
        · exact .inl ⟨j, z, q⟩
        · rw [show j = i by omega] at q; exact .inr q⟩
    have nx := ih k (i + 1) (r1 || f1) (r2 || f2) (by omega) (by omega) (grow (fun v => v.f0 = x ∧ d ≥ v.f2) r1 f1 h1 q1) (grow (fun v => v.f0 = x ∧ v.f1 = true) r2 f2 h2 q2)
    rw [show ((i + 1 : Nat) : Int) = (i : Int) + 1 by omega] at nx
    conv => lhs; unfold jotterlaw6_PlanSingles.l0
    rw [if_pos (by omega), if_pos (by omega), rd_at]
    have eta : (⟨(at4 fs i).f0, (at4 fs i).f1, (at4 fs i).f2⟩ : S41) = at4 fs i := rfl
    rw [eta, Option.bind_some, pm, Option.bind_some, if_pos rfl]
    unfold plan_Many.f
    rw [Option.bind_some]
    conv => lhs; unfold jotterlaw6_PlanSingles.j2
    rw [show (((([at4 fs i] : List S41).length : Nat) : Int) != 1) = false from rfl, if_neg (by decide), e1, e2, wid ((i : Int) + 1) (by omega)]
    cases r1 <;> cases r2 <;> simpa using nx
end

theorem j0_f (k : Nat) (fs : List S41) (x d turn : Int) (v : Bool) (b p y s t : Int) (h : v = false → mayV b p y s t fs = true) (hk : 400 ≤ k) : jotterlaw6_PlanSingles.j0 (k + 1) fs x d turn v b p y s t = some true := by
  simp only [jotterlaw6_PlanSingles.j0]
  cases v with
  | true => rw [if_pos rfl, awake_f k (by omega)]; rfl
  | false =>
    obtain ⟨h1, h2, h3, h4⟩ := may_parts (h rfl)
    rw [if_neg (by decide)]
    exact loop_f fs x d turn b p y s t h1 h2 h3 h4 fs.length k 0 false false (Nat.zero_add _) (by omega) ⟨(fun h => by cases h), (fun ⟨j, hj, _⟩ => by omega)⟩ ⟨(fun h => by cases h), (fun ⟨j, hj, _⟩ => by omega)⟩

theorem pure (b p y s t : Int) (fs : List S41) (x d turn : Int) : ∃ k, jotterlaw6_PlanSingles.f k b p y s t fs x d turn = some true := by
  refine ⟨401, ?_⟩
  unfold jotterlaw6_PlanSingles.f
  by_cases c : (fs.length : Int) > 20
  · rw [if_pos c]
    exact j0_f 400 fs x d turn true b p y s t (fun h => by cases h) (by omega)
  · rw [if_neg c, plan_may 401 b p y s t fs (by omega) (by omega), Option.bind_some]
    exact j0_f 400 fs x d turn _ b p y s t (fun h => by simpa using h) (by omega)

end Go.Proofs.Ytmpbedjbimimoaa.PPlanSingles
