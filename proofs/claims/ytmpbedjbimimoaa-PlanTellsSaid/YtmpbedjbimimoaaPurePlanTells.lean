/-
  The plain law of PlanTells: what the Lean functions compute, and that the law answers true at every input. No condition.
-/
import Derived.Test.YtmpbedjbimimoaaPPlanTellsx
namespace Go.Proofs.Ytmpbedjbimimoaa.PPlanTells
open Go.RowKit Go.Proofs.YtmpbedjbimimoaaW.PrintWords Go.Proofs.YtmpbedjbimimoaaW.PrintLast Go.Proofs.YtmpbedjbimimoaaW.PrintMore
set_option linter.unusedVariables false

-- plain facts on the printed functions of geom
def mayP (b p y s t : Int) : Prop := 8 ≤ b ∧ b ≤ 20 ∧ 4 ≤ p ∧ p ≤ 8 ∧ 24 ≤ y ∧ y ≤ 64 ∧ 0 ≤ s ∧ s ≤ 4 ∧ 2 ≤ t ∧ t ≤ 20 ∧ 12 ≤ (b - s - 3) * p
instance (b p y s t : Int) : Decidable (mayP b p y s t) := by unfold mayP; infer_instance

theorem p_cases {p : Int} (h : 4 ≤ p) (h' : p ≤ 8) : p = 4 ∨ p = 5 ∨ p = 6 ∨ p = 7 ∨ p = 8 := by omega
theorem wid (x : Int) (h : -9223372036854775808 ≤ x ∧ x ≤ 9223372036854775807) : wrap64 x = x := by unfold wrap64; omega

theorem in_f (a b c : Int) : geom_in.f a b c = some (decide (b ≤ a ∧ a ≤ c)) := by
  unfold geom_in.f
  by_cases h : b ≤ a
  · simp [h]
  · simp [h]

theorem half_f (b p y s t : Int) (h1 : 8 ≤ b) (h2 : b ≤ 20) (h3 : 4 ≤ p) (h4 : p ≤ 8) (h5 : 0 ≤ s) (h6 : s ≤ 4) : geom_half.f b p y s t = some (((b - s - 3) * p - 4) / 2) := by
  unfold geom_half.f
  rw [wid (b - s) (by omega), wid (b - s - 3) (by omega)]
  rcases p_cases h3 h4 with rfl | rfl | rfl | rfl | rfl
  all_goals
    rw [wid ((b - s - 3) * _) (by omega), wid (_ - 4) (by omega), Int.tdiv_eq_ediv_of_nonneg (by omega), wid _ (by omega)]

theorem may_f (b p y s t : Int) : geom_May.f b p y s t = some (decide (mayP b p y s t)) := by
  unfold geom_May.f
  simp only [in_f, Option.bind_some]
  by_cases c1 : 8 ≤ b ∧ b ≤ 20
  · by_cases c2 : 4 ≤ p ∧ p ≤ 8
    · by_cases c3 : 24 ≤ y ∧ y ≤ 64
      · by_cases c4 : 0 ≤ s ∧ s ≤ 4
        · by_cases c5 : 2 ≤ t ∧ t ≤ 20
          · rw [half_f b p y s t c1.1 c1.2 c2.1 c2.2 c4.1 c4.2]
            simp only [decide_eq_true c1, decide_eq_true c2, decide_eq_true c3, decide_eq_true c4, decide_eq_true c5, if_true, Option.bind_some]
            refine congrArg some ?_
            rw [decide_eq_decide]
            unfold mayP
            omega
          · simp only [decide_eq_true c1, decide_eq_true c2, decide_eq_true c3, decide_eq_true c4, decide_eq_false c5, if_true]
            exact congrArg some (decide_eq_false (fun h => c5 (by unfold mayP at h; omega))).symm
        · simp only [decide_eq_true c1, decide_eq_true c2, decide_eq_true c3, decide_eq_false c4, if_true]
          exact congrArg some (decide_eq_false (fun h => c4 (by unfold mayP at h; omega))).symm
      · simp only [decide_eq_true c1, decide_eq_true c2, decide_eq_false c3, if_true]
        exact congrArg some (decide_eq_false (fun h => c3 (by unfold mayP at h; omega))).symm
    · simp only [decide_eq_true c1, decide_eq_false c2, if_true]
      exact congrArg some (decide_eq_false (fun h => c2 (by unfold mayP at h; omega))).symm
  · simp only [decide_eq_false c1]
    exact congrArg some (decide_eq_false (fun h => c1 (by unfold mayP at h; omega))).symm




theorem rin_f (a b c : Int) : jotterref5_in.f a b c = some (decide (b ≤ a ∧ a ≤ c)) := by
  unfold jotterref5_in.f
  by_cases h : b ≤ a
  · simp [h]
  · simp [h]

theorem rhalf_f (b p y s t : Int) (h1 : 8 ≤ b) (h2 : b ≤ 20) (h3 : 4 ≤ p) (h4 : p ≤ 8) (h5 : 0 ≤ s) (h6 : s ≤ 4) : jotterref5_half.f b p y s t = some (((b - s - 3) * p - 4) / 2) := by
  unfold jotterref5_half.f
  rw [wid (b - s) (by omega), wid (b - s - 3) (by omega)]
  rcases p_cases h3 h4 with rfl | rfl | rfl | rfl | rfl
  all_goals
    rw [wid ((b - s - 3) * _) (by omega), wid (_ - 4) (by omega)]
    unfold mx
    rw [if_neg (by omega), wid _ (by omega)]

theorem rmay_f (b p y s t : Int) : jotterref5_May.f b p y s t = some (decide (mayP b p y s t)) := by
  unfold jotterref5_May.f
  simp only [rin_f, Option.bind_some]
  by_cases c1 : 8 ≤ b ∧ b ≤ 20
  · by_cases c2 : 4 ≤ p ∧ p ≤ 8
    · by_cases c3 : 24 ≤ y ∧ y ≤ 64
      · by_cases c4 : 0 ≤ s ∧ s ≤ 4
        · by_cases c5 : 2 ≤ t ∧ t ≤ 20
          · rw [rhalf_f b p y s t c1.1 c1.2 c2.1 c2.2 c4.1 c4.2]
            simp only [decide_eq_true c1, decide_eq_true c2, decide_eq_true c3, decide_eq_true c4, decide_eq_true c5, if_true, Option.bind_some]
            refine congrArg some ?_
            rw [decide_eq_decide]
            unfold mayP
            omega
          · simp only [decide_eq_true c1, decide_eq_true c2, decide_eq_true c3, decide_eq_true c4, decide_eq_false c5, if_true]
            exact congrArg some (decide_eq_false (fun h => c5 (by unfold mayP at h; omega))).symm
        · simp only [decide_eq_true c1, decide_eq_true c2, decide_eq_true c3, decide_eq_false c4, if_true]
          exact congrArg some (decide_eq_false (fun h => c4 (by unfold mayP at h; omega))).symm
      · simp only [decide_eq_true c1, decide_eq_true c2, decide_eq_false c3, if_true]
        exact congrArg some (decide_eq_false (fun h => c3 (by unfold mayP at h; omega))).symm
    · simp only [decide_eq_true c1, decide_eq_false c2, if_true]
      exact congrArg some (decide_eq_false (fun h => c2 (by unfold mayP at h; omega))).symm
  · simp only [decide_eq_false c1]
    exact congrArg some (decide_eq_false (fun h => c1 (by unfold mayP at h; omega))).symm


-- plain facts on faults
def at4 (fs : List S41) (i : Nat) : S41 := fs.getD i z41
theorem rd_at (fs : List S41) (i : Nat) : rd_T41 fs (i : Int) = at4 fs i := by unfold rd_T41 at4; rw [Int.toNat_natCast]
theorem at_take4 (fs : List S41) (m i : Nat) (h : i < m) : at4 (fs.take m) i = at4 fs i := by
  unfold at4
  rw [List.getD_eq_getElem?_getD, List.getElem?_take, if_pos h, List.getD_eq_getElem?_getD]

theorem idx_from (fs : List S41) (x : Int) (hn : fs.length ≤ 1000) (d : Nat) : ∀ (k i : Nat), i + d = fs.length → d < k →
    (plan_find_idx.l0 k fs x i = some (-1) ∧ ∀ j, i ≤ j → j < fs.length → (at4 fs j).f0 ≠ x) ∨ ∃ j : Nat, i ≤ j ∧ j < fs.length ∧ (at4 fs j).f0 = x ∧ (∀ m, i ≤ m → m < j → (at4 fs m).f0 ≠ x) ∧ plan_find_idx.l0 k fs x i = some (j : Int) := by
  induction d with
  | zero =>
    intro k i hi hk
    obtain ⟨k, rfl⟩ : ∃ m, k = m + 1 := ⟨k - 1, by omega⟩
    refine .inl ⟨?_, fun j _ _ => by omega⟩
    simp only [plan_find_idx.l0]
    rw [if_neg (by omega)]
  | succ d ih =>
    intro k i hi hk
    obtain ⟨k, rfl⟩ : ∃ m, k = m + 1 := ⟨k - 1, by omega⟩
    have e : plan_find_idx.l0 (k + 1) fs x i = if ((at4 fs i).f0 == x) = true then some (i : Int) else plan_find_idx.l0 k fs x ((i + 1 : Nat) : Int) := by
      conv => lhs; unfold plan_find_idx.l0
      rw [if_pos (by omega), if_pos (by omega), rd_at, wid ((i : Int) + 1) (by omega)]
      rfl
    rw [e]
    by_cases c : (at4 fs i).f0 = x
    · refine .inr ⟨i, Nat.le_refl _, by omega, c, fun m h1 h2 => by omega, ?_⟩
      rw [if_pos (beq_iff_eq.2 c)]
    · rw [if_neg (fun h => c (beq_iff_eq.1 h))]
      rcases ih k (i + 1) (by omega) (by omega) with ⟨h1, h2⟩ | ⟨j, h1, h2, h3, h4, h5⟩
      · refine .inl ⟨h1, fun j a b => ?_⟩
        rcases Nat.lt_or_ge i j with q | q
        · exact h2 j q b
        · rw [show j = i by omega]; exact c
      · refine .inr ⟨j, by omega, h2, h3, fun m a b => ?_, h5⟩
        rcases Nat.lt_or_ge i m with q | q
        · exact h4 m q b
        · rw [show m = i by omega]; exact c

/-- find: either no fault is of this block, or the first one that is. -/
theorem find_cases (k : Nat) (fs : List S41) (x : Int) (hn : fs.length ≤ 1000) (hk : fs.length < k) :
    (plan_find.f k fs x = some (0, false, 0, false) ∧ ∀ j, j < fs.length → (at4 fs j).f0 ≠ x) ∨ ∃ j : Nat, j < fs.length ∧ (at4 fs j).f0 = x ∧ (∀ m, m < j → (at4 fs m).f0 ≠ x) ∧ plan_find.f k fs x = some ((at4 fs j).f0, (at4 fs j).f1, (at4 fs j).f2, true) := by
  unfold plan_find.f
  rcases idx_from fs x hn fs.length k 0 (Nat.zero_add _) hk with ⟨h1, h2⟩ | ⟨j, _, h2, h3, h4, h5⟩
  · rw [show ((0 : Nat) : Int) = 0 from rfl] at h1
    rw [h1, Option.bind_some, if_pos (by omega)]
    exact .inl ⟨rfl, fun j h => h2 j (Nat.zero_le _) h⟩
  · rw [show ((0 : Nat) : Int) = 0 from rfl] at h5
    rw [h5, Option.bind_some, if_neg (by omega), if_pos (by omega), rd_at]
    exact .inr ⟨j, h2, h3, fun m h => h4 m (Nat.zero_le _) h, rfl⟩

def okB (b : Int) (x : S41) : Bool := decide (¬ x.f0 < 0 ∧ ¬ x.f0 ≥ b ∧ ¬ x.f2 < 0 ∧ ¬ x.f2 > 1073741824 ∧ (x.f1 = true → x.f2 = 0))
def dupTo (fs : List S41) (i : Nat) : Nat → Bool
  | 0 => false
  | m + 1 => dupTo fs i m || decide ((at4 fs m).f0 = (at4 fs i).f0)
def passB (fs : List S41) (b : Int) (i : Nat) : Bool := okB b (at4 fs i) && !dupTo fs i i
def restB (fs : List S41) (b : Int) (i : Nat) : Nat → Bool
  | 0 => true
  | d + 1 => passB fs b i && restB fs b (i + 1) d

theorem dup_false (fs : List S41) (i m : Nat) : dupTo fs i m = false ↔ ∀ j, j < m → (at4 fs j).f0 ≠ (at4 fs i).f0 := by
  induction m with
  | zero => exact ⟨fun _ j h => by omega, fun _ => rfl⟩
  | succ m ih =>
    rw [dupTo, Bool.or_eq_false_iff, ih, decide_eq_false_iff_not]
    exact ⟨fun ⟨h1, h2⟩ j hj => by
      rcases Nat.lt_or_ge j m with c | c
      · exact h1 j c
      · rw [show j = m by omega]; exact h2, fun h => ⟨fun j hj => h j (by omega), h m (by omega)⟩⟩

theorem rest_true (fs : List S41) (b : Int) (d : Nat) : ∀ i, restB fs b i d = true ↔ ∀ j, i ≤ j → j < i + d → passB fs b j = true := by
  induction d with
  | zero => exact fun i => ⟨fun _ j h1 h2 => by omega, fun _ => rfl⟩
  | succ d ih =>
    intro i
    rw [restB, Bool.and_eq_true, ih]
    exact ⟨fun ⟨h1, h2⟩ j a c => by
      rcases Nat.lt_or_ge i j with q | q
      · exact h2 j q (by omega)
      · rw [show j = i by omega]; exact h1, fun h => ⟨h i (Nat.le_refl _) (by omega), fun j a c => h j (by omega) (by omega)⟩⟩

theorem may_from (fs : List S41) (b p y s t : Int) (hn : fs.length ≤ 20) (d : Nat) : ∀ (k i : Nat), i + d = fs.length → d + 50 < k → plan_May.l0 k fs fs fs.length i b p y s t = some (restB fs b i d) := by
  induction d with
  | zero =>
    intro k i hi hk
    obtain ⟨k, rfl⟩ : ∃ m, k = m + 1 := ⟨k - 1, by omega⟩
    simp only [plan_May.l0]
    rw [if_neg (by omega)]
    rfl
  | succ d ih =>
    intro k i hi hk
    obtain ⟨k, rfl⟩ : ∃ m, k = m + 1 := ⟨k - 1, by omega⟩
    have nx := ih k (i + 1) (by omega) (by omega)
    rw [show ((i + 1 : Nat) : Int) = (i : Int) + 1 by omega] at nx
    conv => lhs; unfold plan_May.l0
    have hl : (fs.take i).length = i := by rw [List.length_take]; omega
    rw [if_pos (by omega), if_pos (by omega), if_pos (by omega), if_pos (by omega), Int.toNat_natCast, rd_at, wid ((i : Int) + 1) (by omega), restB]
    have hdup : ∀ r, plan_find.f k (fs.take i) (at4 fs i).f0 = some r → r.2.2.2 = dupTo fs i i := by
      intro r hr
      rcases find_cases k (fs.take i) (at4 fs i).f0 (by omega) (by omega) with ⟨h1, h2⟩ | ⟨j, h1, h2, h3, h4⟩
      · rw [h1] at hr
        have : dupTo fs i i = false := (dup_false fs i i).2 fun j hj => by have := h2 j (by omega); rw [at_take4 fs i j hj] at this; exact this
        rw [this, ← Option.some.inj hr]
      · rw [h4] at hr
        rw [at_take4 fs i j (by omega)] at h2
        have : dupTo fs i i = true := by
          cases q : dupTo fs i i with
          | true => rfl
          | false => exact absurd h2 ((dup_false fs i i).1 q j (by omega))
        rw [this, ← Option.some.inj hr]
    obtain ⟨r, hr⟩ : ∃ r, plan_find.f k (fs.take i) (at4 fs i).f0 = some r := by
      rcases find_cases k (fs.take i) (at4 fs i).f0 (by omega) (by omega) with ⟨h1, _⟩ | ⟨_, _, _, _, h4⟩
      · exact ⟨_, h1⟩
      · exact ⟨_, h4⟩
    rw [hr, Option.bind_some, hdup r hr]
    have no : passB fs b i = false → (some false : Option Bool) = some (passB fs b i && restB fs b (i + 1) d) := fun h => by rw [h]; rfl
    by_cases c0 : dupTo fs i i = true
    · rw [if_pos c0]; exact no (by unfold passB; rw [c0, Bool.not_true, Bool.and_false])
    rw [if_neg c0]
    have bad : ¬ (¬ (at4 fs i).f0 < 0 ∧ ¬ (at4 fs i).f0 ≥ b ∧ ¬ (at4 fs i).f2 < 0 ∧ ¬ (at4 fs i).f2 > 1073741824 ∧ ((at4 fs i).f1 = true → (at4 fs i).f2 = 0)) → passB fs b i = false := fun h => by
      unfold passB okB; rw [decide_eq_false h, Bool.false_and]
    have good : (¬ (at4 fs i).f0 < 0 ∧ ¬ (at4 fs i).f0 ≥ b ∧ ¬ (at4 fs i).f2 < 0 ∧ ¬ (at4 fs i).f2 > 1073741824 ∧ ((at4 fs i).f1 = true → (at4 fs i).f2 = 0)) → some (restB fs b (i + 1) d) = some (passB fs b i && restB fs b (i + 1) d) := fun h => by
      unfold passB okB; rw [decide_eq_true h, Bool.eq_false_iff.mpr c0]; rfl
    by_cases c1 : (at4 fs i).f0 < 0
    · rw [if_pos c1]; exact no (bad fun h => h.1 c1)
    rw [if_neg c1]
    by_cases c2 : (at4 fs i).f0 ≥ b
    · rw [if_pos c2]; exact no (bad fun h => h.2.1 c2)
    rw [if_neg c2]
    by_cases c3 : (at4 fs i).f2 < 0
    · rw [if_pos c3]; exact no (bad fun h => h.2.2.1 c3)
    rw [if_neg c3]
    by_cases c4 : (at4 fs i).f2 > 1073741824
    · rw [if_pos c4]; exact no (bad fun h => h.2.2.2.1 c4)
    rw [if_neg c4]
    by_cases c5 : (at4 fs i).f1 = true
    · rw [if_pos c5]
      by_cases c6 : (at4 fs i).f2 = 0
      · rw [if_pos c6, nx]; exact good ⟨c1, c2, c3, c4, fun _ => c6⟩
      · rw [if_neg c6]; exact no (bad fun h => c6 (h.2.2.2.2 c5))
    · rw [if_neg c5, nx]; exact good ⟨c1, c2, c3, c4, fun h => absurd h c5⟩

def mayV (b p y s t : Int) (fs : List S41) : Bool := decide (mayP b p y s t) && (!decide (fs.length > 8) && restB fs b 0 fs.length)

theorem plan_may (k : Nat) (b p y s t : Int) (fs : List S41) (hn : fs.length ≤ 20) (hk : 100 ≤ k) : plan_May.f k b p y s t fs = some (mayV b p y s t fs) := by
  obtain ⟨k, rfl⟩ : ∃ m, k = m + 1 := ⟨k - 1, by omega⟩
  unfold plan_May.f mayV
  rw [may_f, Option.bind_some]
  simp only [plan_May.j0]
  by_cases h : mayP b p y s t
  · rw [decide_eq_true h, if_pos rfl, Bool.true_and]
    by_cases c : fs.length > 8
    · rw [decide_eq_true (show (fs.length : Int) > 8 by omega), decide_eq_true c, if_pos rfl]; rfl
    · rw [decide_eq_false (show ¬ (fs.length : Int) > 8 by omega), decide_eq_false c, if_neg (by decide)]
      exact may_from fs b p y s t hn fs.length k 0 (Nat.zero_add _) (by omega)
  · rw [decide_eq_false h]; rfl

theorem may_parts {b p y s t : Int} {fs : List S41} (h : mayV b p y s t fs = true) : mayP b p y s t ∧ fs.length ≤ 8 ∧ (∀ i, i < fs.length → okB b (at4 fs i) = true) ∧ ∀ i j, i < fs.length → j < fs.length → (at4 fs i).f0 = (at4 fs j).f0 → i = j := by
  unfold mayV at h
  rw [Bool.and_eq_true, Bool.and_eq_true, Bool.not_eq_true', decide_eq_true_eq, decide_eq_false_iff_not, rest_true] at h
  obtain ⟨h1, h2, h3⟩ := h
  have pass : ∀ i, i < fs.length → okB b (at4 fs i) = true ∧ ∀ j, j < i → (at4 fs j).f0 ≠ (at4 fs i).f0 := fun i hi => by
    have := h3 i (Nat.zero_le _) (by omega)
    unfold passB at this
    rw [Bool.and_eq_true, Bool.not_eq_true', dup_false] at this
    exact this
  refine ⟨h1, by omega, fun i hi => (pass i hi).1, fun i j hi hj e => ?_⟩
  rcases Nat.lt_trichotomy i j with c | c | c
  · exact absurd e ((pass j hj).2 i c)
  · exact c
  · exact absurd e.symm ((pass i hi).2 j c)

theorem may_of {b p y s t : Int} {fs : List S41} (h1 : mayP b p y s t) (h2 : fs.length ≤ 8) (h3 : ∀ i, i < fs.length → okB b (at4 fs i) = true) (h4 : ∀ i j, i < fs.length → j < fs.length → (at4 fs i).f0 = (at4 fs j).f0 → i = j) : mayV b p y s t fs = true := by
  unfold mayV
  rw [Bool.and_eq_true, Bool.and_eq_true, Bool.not_eq_true', decide_eq_true_eq, decide_eq_false_iff_not, rest_true]
  refine ⟨h1, by omega, fun j _ hj => ?_⟩
  unfold passB
  rw [Bool.and_eq_true, Bool.not_eq_true', dup_false]
  exact ⟨h3 j (by omega), fun i hi e => by have := h4 i j (by omega) (by omega) e; omega⟩

/-- Fails and Bad, in the two cases. -/
theorem fails_cases (k : Nat) (fs : List S41) (x t : Int) (hn : fs.length ≤ 1000) (hk : fs.length < k) :
    (plan_Fails.f k fs x t = some false ∧ plan_Bad.f k fs x = some false ∧ ∀ j, j < fs.length → (at4 fs j).f0 ≠ x) ∨ ∃ j : Nat, j < fs.length ∧ (at4 fs j).f0 = x ∧ (∀ m, m < j → (at4 fs m).f0 ≠ x) ∧ plan_Fails.f k fs x t = some (decide (t ≥ (at4 fs j).f2)) ∧ plan_Bad.f k fs x = some (at4 fs j).f1 := by
  unfold plan_Fails.f plan_Bad.f
  rcases find_cases k fs x hn hk with ⟨h1, h2⟩ | ⟨j, h1, h2, h3, h4⟩
  · rw [h1]
    exact .inl ⟨rfl, rfl, h2⟩
  · rw [h4]
    exact .inr ⟨j, h1, h2, h3, rfl, rfl⟩

theorem awake_f (k : Nat) (hk : 60 ≤ k) : jotterlaw6_awake.f k = some true :=
  at_rounds (g := jotterlaw6_awake.f) jotterlaw6_awake.mono hk (by decide +kernel)


open Classical in
theorem inner (fs : List S41) (b p y s t : Int) (i : Nat) (hi : i < fs.length) (hn : fs.length ≤ 20) (x : Int) (f1 : Bool) (f2 : Int) (hx : x = (at4 fs i).f0) (d : Nat) : ∀ (k j : Nat), j + d = i → d < k →
    jotterref6_May.l1 k fs i j b p y s t x f1 f2 = if ∃ m, j ≤ m ∧ m < i ∧ (at4 fs m).f0 = x then some false else jotterref6_May.l0 (k - d - 1) fs ((i : Int) + 1) b p y s t := by
  induction d with
  | zero =>
    intro k j hj hk
    obtain ⟨k, rfl⟩ : ∃ m, k = m + 1 := ⟨k - 1, by omega⟩
    rw [if_neg (fun ⟨m, h1, h2, _⟩ => by omega)]
    conv => lhs; unfold jotterref6_May.l1
    rw [if_neg (by omega), wid ((i : Int) + 1) (by omega)]
    rfl
  | succ d ih =>
    intro k j hj hk
    obtain ⟨k, rfl⟩ : ∃ m, k = m + 1 := ⟨k - 1, by omega⟩
    have nx := ih k (j + 1) (by omega) (by omega)
    rw [show ((j + 1 : Nat) : Int) = (j : Int) + 1 by omega] at nx
    conv => lhs; unfold jotterref6_May.l1
    rw [if_pos (by omega), if_pos (by omega), if_pos (by omega), rd_at, wid ((j : Int) + 1) (by omega)]
    by_cases c : (at4 fs j).f0 = x
    · rw [if_pos c, if_pos ⟨j, Nat.le_refl _, by omega, c⟩]
    · rw [if_neg c, nx, show k + 1 - (d + 1) - 1 = k - d - 1 by omega]
      by_cases q : ∃ m, j + 1 ≤ m ∧ m < i ∧ (at4 fs m).f0 = x
      · obtain ⟨m, a, b', e⟩ := q
        rw [if_pos ⟨m, a, b', e⟩, if_pos ⟨m, by omega, b', e⟩]
      · rw [if_neg q, if_neg (fun ⟨m, a, b', e⟩ => q ⟨m, by
          rcases Nat.lt_or_ge j m with z | z
          · exact z
          · exact absurd (show (at4 fs j).f0 = x by rw [show j = m by omega]; exact e) c, b', e⟩)]

theorem rmay_from (fs : List S41) (b p y s t : Int) (hn : fs.length ≤ 20) (d : Nat) : ∀ (k i : Nat), i + d = fs.length → 40 * d + 50 < k → jotterref6_May.l0 k fs i b p y s t = some (restB fs b i d) := by
  induction d with
  | zero =>
    intro k i hi hk
    obtain ⟨k, rfl⟩ : ∃ m, k = m + 1 := ⟨k - 1, by omega⟩
    conv => lhs; unfold jotterref6_May.l0
    rw [if_neg (by omega)]
    rfl
  | succ d ih =>
    intro k i hi hk
    obtain ⟨k, rfl⟩ : ∃ m, k = m + 2 := ⟨k - 2, by omega⟩
    have nx := ih (k - i - 1) (i + 1) (by omega) (by omega)
    rw [show ((i + 1 : Nat) : Int) = (i : Int) + 1 by omega] at nx
    have inn := inner fs b p y s t i (by omega) hn (at4 fs i).f0 (at4 fs i).f1 (at4 fs i).f2 rfl i k 0 (Nat.zero_add _) (by omega)
    rw [show ((0 : Nat) : Int) = 0 from rfl, nx] at inn
    conv => lhs; unfold jotterref6_May.l0
    rw [if_pos (by omega), if_pos (by omega), rd_at, restB]
    have yes : jotterref6_May.j2 (k + 1) fs i true b p y s t (at4 fs i).f0 (at4 fs i).f1 (at4 fs i).f2 = some false := by
      conv => lhs; unfold jotterref6_May.j2
      rw [if_pos rfl]
    have nah : jotterref6_May.j2 (k + 1) fs i false b p y s t (at4 fs i).f0 (at4 fs i).f1 (at4 fs i).f2 = jotterref6_May.l1 k fs i 0 b p y s t (at4 fs i).f0 (at4 fs i).f1 (at4 fs i).f2 := by
      conv => lhs; unfold jotterref6_May.j2
      rw [if_neg (by decide)]
    have no : passB fs b i = false → (some false : Option Bool) = some (passB fs b i && restB fs b (i + 1) d) := fun h => by rw [h]; rfl
    have bad : ¬ (¬ (at4 fs i).f0 < 0 ∧ ¬ (at4 fs i).f0 ≥ b ∧ ¬ (at4 fs i).f2 < 0 ∧ ¬ (at4 fs i).f2 > 1073741824 ∧ ((at4 fs i).f1 = true → (at4 fs i).f2 = 0)) → passB fs b i = false := fun h => by
      unfold passB okB; rw [decide_eq_false h, Bool.false_and]
    have good : (¬ (at4 fs i).f0 < 0 ∧ ¬ (at4 fs i).f0 ≥ b ∧ ¬ (at4 fs i).f2 < 0 ∧ ¬ (at4 fs i).f2 > 1073741824 ∧ ((at4 fs i).f1 = true → (at4 fs i).f2 = 0)) → jotterref6_May.l1 k fs i 0 b p y s t (at4 fs i).f0 (at4 fs i).f1 (at4 fs i).f2 = some (passB fs b i && restB fs b (i + 1) d) := fun h => by
      rw [inn]
      by_cases q : ∃ m, 0 ≤ m ∧ m < i ∧ (at4 fs m).f0 = (at4 fs i).f0
      · rw [if_pos q]
        obtain ⟨m, _, hm, e⟩ := q
        have : dupTo fs i i = true := by
          cases z : dupTo fs i i with
          | true => rfl
          | false => exact absurd e ((dup_false fs i i).1 z m hm)
        exact no (by unfold passB; rw [this, Bool.not_true, Bool.and_false])
      · rw [if_neg q]
        have : dupTo fs i i = false := (dup_false fs i i).2 fun j hj e => q ⟨j, Nat.zero_le _, hj, e⟩
        unfold passB okB
        rw [decide_eq_true h, this]
        rfl
    by_cases c1 : (at4 fs i).f0 < 0
    · rw [if_pos c1, yes]; exact no (bad fun h => h.1 c1)
    rw [if_neg c1]
    by_cases c2 : (at4 fs i).f0 ≥ b
    · rw [if_pos c2, yes]; exact no (bad fun h => h.2.1 c2)
    rw [if_neg c2]
    by_cases c3 : (at4 fs i).f2 < 0
    · rw [if_pos c3, yes]; exact no (bad fun h => h.2.2.1 c3)
    rw [if_neg c3]
    by_cases c4 : (at4 fs i).f2 > 1073741824
    · rw [if_pos c4, yes]; exact no (bad fun h => h.2.2.2.1 c4)
    rw [if_neg c4]
    by_cases c5 : (at4 fs i).f1 = true
    · rw [if_pos c5]
      by_cases c6 : (at4 fs i).f2 = 0
      · rw [show ((at4 fs i).f2 != 0) = false by rw [c6]; rfl, nah]
        exact good ⟨c1, c2, c3, c4, fun _ => c6⟩
      · rw [show ((at4 fs i).f2 != 0) = true from bne_iff_ne.2 c6, yes]
        exact no (bad fun h => c6 (h.2.2.2.2 c5))
    · rw [if_neg c5, nah]; exact good ⟨c1, c2, c3, c4, fun h => absurd h c5⟩

theorem rplan_may (k : Nat) (b p y s t : Int) (fs : List S41) (hn : fs.length ≤ 20) (hk : 2000 ≤ k) : jotterref6_May.f k b p y s t fs = some (mayV b p y s t fs) := by
  obtain ⟨k, rfl⟩ : ∃ m, k = m + 1 := ⟨k - 1, by omega⟩
  unfold jotterref6_May.f mayV
  rw [rmay_f, Option.bind_some]
  simp only [jotterref6_May.j0]
  by_cases h : mayP b p y s t
  · rw [decide_eq_true h, if_pos rfl, Bool.true_and]
    by_cases c : fs.length > 8
    · rw [decide_eq_true (show (fs.length : Int) > 8 by omega), decide_eq_true c, if_pos rfl]; rfl
    · rw [decide_eq_false (show ¬ (fs.length : Int) > 8 by omega), decide_eq_false c, if_neg (by decide)]
      exact rmay_from fs b p y s t hn fs.length k 0 (Nat.zero_add _) (by omega)
  · rw [decide_eq_false h]; rfl

theorem rfails_from (fs : List S41) (x t : Int) (hn : fs.length ≤ 20) (d : Nat) : ∀ (k i : Nat), i + d = fs.length → d < k → ∃ r, jotterref6_Fails.l0 k fs x t i = some r ∧ (r = true ↔ ∃ j, i ≤ j ∧ j < fs.length ∧ (at4 fs j).f0 = x ∧ t ≥ (at4 fs j).f2) := by
  induction d with
  | zero =>
    intro k i hi hk
    obtain ⟨k, rfl⟩ : ∃ m, k = m + 1 := ⟨k - 1, by omega⟩
    refine ⟨false, ?_, (fun h => by cases h), fun ⟨j, h1, h2, _⟩ => by omega⟩
    simp only [jotterref6_Fails.l0]
    rw [if_neg (by omega)]
  | succ d ih =>
    intro k i hi hk
    obtain ⟨k, rfl⟩ : ∃ m, k = m + 1 := ⟨k - 1, by omega⟩
    obtain ⟨r, nx, hr⟩ := ih k (i + 1) (by omega) (by omega)
    rw [show ((i + 1 : Nat) : Int) = (i : Int) + 1 by omega] at nx
    have on : ¬ ((at4 fs i).f0 = x ∧ t ≥ (at4 fs i).f2) → (r = true ↔ ∃ j, i ≤ j ∧ j < fs.length ∧ (at4 fs j).f0 = x ∧ t ≥ (at4 fs j).f2) := fun c => by
      rw [hr]
      exact ⟨fun ⟨j, a, q⟩ => ⟨j, by omega, q⟩, fun ⟨j, a, q⟩ => ⟨j, by
        rcases Nat.lt_or_ge i j with z | z
        · exact z
        · rw [show j = i by omega] at q; exact absurd q.2 c, q⟩⟩
    conv => arg 1; intro r; lhs; lhs; unfold jotterref6_Fails.l0
    rw [if_pos (by omega), if_pos (by omega), rd_at, wid ((i : Int) + 1) (by omega)]
    by_cases c : (at4 fs i).f0 = x
    · rw [if_pos c]
      by_cases c2 : t ≥ (at4 fs i).f2
      · rw [if_pos c2]
        exact ⟨true, rfl, fun _ => ⟨i, Nat.le_refl _, by omega, c, c2⟩, fun _ => rfl⟩
      · rw [if_neg c2]
        exact ⟨r, nx, on fun h => c2 h.2⟩
    · rw [if_neg c]
      exact ⟨r, nx, on fun h => c h.1⟩

theorem rbad_from (fs : List S41) (x : Int) (hn : fs.length ≤ 20) (d : Nat) : ∀ (k i : Nat), i + d = fs.length → d < k → ∃ r, jotterref6_Bad.l0 k fs x i = some r ∧ (r = true ↔ ∃ j, i ≤ j ∧ j < fs.length ∧ (at4 fs j).f0 = x ∧ (at4 fs j).f1 = true) := by
  induction d with
  | zero =>
    intro k i hi hk
    obtain ⟨k, rfl⟩ : ∃ m, k = m + 1 := ⟨k - 1, by omega⟩
    refine ⟨false, ?_, (fun h => by cases h), fun ⟨j, h1, h2, _⟩ => by omega⟩
    simp only [jotterref6_Bad.l0]
    rw [if_neg (by omega)]
  | succ d ih =>
    intro k i hi hk
    obtain ⟨k, rfl⟩ : ∃ m, k = m + 1 := ⟨k - 1, by omega⟩
    obtain ⟨r, nx, hr⟩ := ih k (i + 1) (by omega) (by omega)
    rw [show ((i + 1 : Nat) : Int) = (i : Int) + 1 by omega] at nx
    have on : ¬ ((at4 fs i).f0 = x ∧ (at4 fs i).f1 = true) → (r = true ↔ ∃ j, i ≤ j ∧ j < fs.length ∧ (at4 fs j).f0 = x ∧ (at4 fs j).f1 = true) := fun c => by
      rw [hr]
      exact ⟨fun ⟨j, a, q⟩ => ⟨j, by omega, q⟩, fun ⟨j, a, q⟩ => ⟨j, by
        rcases Nat.lt_or_ge i j with z | z
        · exact z
        · rw [show j = i by omega] at q; exact absurd q.2 c, q⟩⟩
    conv => arg 1; intro r; lhs; lhs; unfold jotterref6_Bad.l0
    rw [if_pos (by omega), if_pos (by omega), rd_at, wid ((i : Int) + 1) (by omega)]
    by_cases c : (at4 fs i).f0 = x
    · rw [if_pos c]
      by_cases c2 : (at4 fs i).f1 = true
      · rw [if_pos c2]
        exact ⟨true, rfl, fun _ => ⟨i, Nat.le_refl _, by omega, c, c2⟩, fun _ => rfl⟩
      · rw [if_neg c2]
        exact ⟨r, nx, on fun h => c2 h.2⟩
    · rw [if_neg c]
      exact ⟨r, nx, on fun h => c h.1⟩

theorem bool_iff {a b : Bool} (h : a = true ↔ b = true) : a = b := by cases a <;> cases b <;> simp_all

theorem pure (b p y s t : Int) (fs : List S41) (x d : Int) : ∃ k, jotterlaw6_PlanTells.f k b p y s t fs x d = some true := by
  refine ⟨3000, ?_⟩
  unfold jotterlaw6_PlanTells.f
  by_cases c : (fs.length : Int) > 20
  · rw [if_pos c, awake_f 3000 (by omega)]; rfl
  rw [if_neg c, plan_may 3000 b p y s t fs (by omega) (by omega), rplan_may 3000 b p y s t fs (by omega) (by omega)]
  simp only [Option.bind_some]
  rw [if_neg (by rw [bne_self_eq_false]; decide)]
  by_cases h : mayV b p y s t fs = true
  · obtain ⟨_, h2, h3, h4⟩ := may_parts h
    obtain ⟨r1, e1, q1⟩ := rfails_from fs x d (by omega) fs.length 3000 0 (Nat.zero_add _) (by omega)
    obtain ⟨r2, e2, q2⟩ := rbad_from fs x (by omega) fs.length 3000 0 (Nat.zero_add _) (by omega)
    rw [show ((0 : Nat) : Int) = 0 from rfl] at e1 e2
    have f1 : jotterref6_Fails.f 3000 fs x d = some r1 := e1
    have f2 : jotterref6_Bad.f 3000 fs x = some r2 := e2
    rw [if_pos h, f1, f2, awake_f 3000 (by omega)]
    unfold plan_Many.f
    rcases fails_cases 3000 fs x d (by omega) (by omega) with ⟨g1, g2, g3⟩ | ⟨j, g1, g2, g3, g4, g5⟩
    · have : r1 = false := Bool.eq_false_iff.mpr fun z => by obtain ⟨j, _, hj, e, _⟩ := q1.1 z; exact g3 j hj e
      have : r2 = false := Bool.eq_false_iff.mpr fun z => by obtain ⟨j, _, hj, e, _⟩ := q2.1 z; exact g3 j hj e
      subst r1 r2
      rw [g1, g2]
      simp
    · have a1 : decide (d ≥ (at4 fs j).f2) = r1 := bool_iff (by
        rw [q1, decide_eq_true_eq]
        exact ⟨fun z => ⟨j, Nat.zero_le _, g1, g2, z⟩, fun ⟨m, _, hm, e, z⟩ => by rw [h4 j m g1 hm (g2.trans e.symm)]; exact z⟩)
      have a2 : (at4 fs j).f1 = r2 := bool_iff (by
        rw [q2]
        exact ⟨fun z => ⟨j, Nat.zero_le _, g1, g2, z⟩, fun ⟨m, _, hm, e, z⟩ => by rw [h4 j m g1 hm (g2.trans e.symm)]; exact z⟩)
      rw [g4, g5, a1, a2]
      simp only [Option.bind_some, beq_self_eq_true, if_true]
  · rw [if_neg h, awake_f 3000 (by omega)]; rfl

end Go.Proofs.Ytmpbedjbimimoaa.PPlanTells
