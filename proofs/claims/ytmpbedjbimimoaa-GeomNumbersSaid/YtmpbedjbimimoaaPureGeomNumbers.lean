/-
  The plain law of GeomNumbers: what the printed Lean functions of geom compute, and that the law answers true at every input. No condition.
-/
import Derived.Test.YtmpbedjbimimoaaPGeomNumbersx4
namespace Go.Proofs.Ytmpbedjbimimoaa.PGeomNumbers
open Go.RowKit Go.Proofs.YtmpbedjbimimoaaW.PrintWords Go.Proofs.YtmpbedjbimimoaaW.PrintLast Go.Proofs.YtmpbedjbimimoaaW.PrintMore
set_option linter.unusedVariables false

-- plain facts on the printed functions of geom
def mayP (b p y s t : Int) : Prop := 8 ≤ b ∧ b ≤ 20 ∧ 4 ≤ p ∧ p ≤ 8 ∧ 24 ≤ y ∧ y ≤ 64 ∧ 0 ≤ s ∧ s ≤ 4 ∧ 2 ≤ t ∧ t ≤ 20 ∧ 12 ≤ (b - s - 3) * p
instance (b p y s t : Int) : Decidable (mayP b p y s t) := by unfold mayP; infer_instance

theorem p_cases {p : Int} (h : 4 ≤ p) (h' : p ≤ 8) : p = 4 ∨ p = 5 ∨ p = 6 ∨ p = 7 ∨ p = 8 := by omega
theorem wid (x : Int) (h : -9223372036854775808 ≤ x ∧ x ≤ 9223372036854775807) : wrap64 x = x := by unfold wrap64; omega

theorem in_f (a b c : Int) : geom_in.f a b c = some (decide (b ≤ a ∧ a ≤ c)) := by
  unfold geom_in.f
  by_cases h : b ≤ a
  · simp [h]
  · simp [h]

theorem half_f (b p y s t : Int) (h1 : 8 ≤ b) (h2 : b ≤ 20) (h3 : 4 ≤ p) (h4 : p ≤ 8) (h5 : 0 ≤ s) (h6 : s ≤ 4) : geom_half.f b p y s t = some (((b - s - 3) * p - 4) / 2) := by
  unfold geom_half.f
  rw [wid (b - s) (by omega), wid (b - s - 3) (by omega)]
  rcases p_cases h3 h4 with rfl | rfl | rfl | rfl | rfl
  all_goals
    rw [wid ((b - s - 3) * _) (by omega), wid (_ - 4) (by omega), Int.tdiv_eq_ediv_of_nonneg (by omega), wid _ (by omega)]

theorem may_f (b p y s t : Int) : geom_May.f b p y s t = some (decide (mayP b p y s t)) := by
  unfold geom_May.f
  simp only [in_f, Option.bind_some]
  by_cases c1 : 8 ≤ b ∧ b ≤ 20
  · by_cases c2 : 4 ≤ p ∧ p ≤ 8
    · by_cases c3 : 24 ≤ y ∧ y ≤ 64
      · by_cases c4 : 0 ≤ s ∧ s ≤ 4
        · by_cases c5 : 2 ≤ t ∧ t ≤ 20
          · rw [half_f b p y s t c1.1 c1.2 c2.1 c2.2 c4.1 c4.2]
            simp only [decide_eq_true c1, decide_eq_true c2, decide_eq_true c3, decide_eq_true c4, decide_eq_true c5, if_true, Option.bind_some]
            refine congrArg some ?_
            rw [decide_eq_decide]
            unfold mayP
            omega
          · simp only [decide_eq_true c1, decide_eq_true c2, decide_eq_true c3, decide_eq_true c4, decide_eq_false c5, if_true]
            exact congrArg some (decide_eq_false (fun h => c5 (by unfold mayP at h; omega))).symm
        · simp only [decide_eq_true c1, decide_eq_true c2, decide_eq_true c3, decide_eq_false c4, if_true]
          exact congrArg some (decide_eq_false (fun h => c4 (by unfold mayP at h; omega))).symm
      · simp only [decide_eq_true c1, decide_eq_true c2, decide_eq_false c3, if_true]
        exact congrArg some (decide_eq_false (fun h => c3 (by unfold mayP at h; omega))).symm
    · simp only [decide_eq_true c1, decide_eq_false c2, if_true]
      exact congrArg some (decide_eq_false (fun h => c2 (by unfold mayP at h; omega))).symm
  · simp only [decide_eq_false c1]
    exact congrArg some (decide_eq_false (fun h => c1 (by unfold mayP at h; omega))).symm

theorem awake_f : jotterlaw5_awake.f = some true := by decide +kernel

theorem is_f (b p y s t i j : Int) : geom_is.f b p y s t i j = some (decide (mayP b p y s t ∧ 0 ≤ i ∧ i < b ∧ 0 ≤ j ∧ j < p)) := by
  unfold geom_is.f
  rw [may_f, Option.bind_some]
  by_cases h : mayP b p y s t
  · rw [decide_eq_true h, if_pos rfl]
    have g := h
    unfold mayP at g
    simp only [in_f, Option.bind_some]
    rw [wid (b - 1) (by omega), wid (p - 1) (by omega)]
    by_cases h1 : 0 ≤ i ∧ i ≤ b - 1
    · rw [decide_eq_true h1, if_pos rfl]
      congr 1
      rw [decide_eq_decide]
      exact ⟨fun k => ⟨h, by omega⟩, fun ⟨_, k⟩ => by omega⟩
    · rw [decide_eq_false h1]
      exact congrArg some (decide_eq_false (fun h' => h1 (by have := h'.2; omega))).symm
  · rw [decide_eq_false h]
    exact congrArg some (decide_eq_false (fun h' => h h'.1)).symm

theorem num_wrap (b p i j : Int) (h1 : b ≤ 20) (h3 : 4 ≤ p) (h4 : p ≤ 8) (hi : 0 ≤ i) (hi' : i < b) (hj : 0 ≤ j) (hj' : j < p) : wrap64 (wrap64 (i * p) + j) = i * p + j := by
  rcases p_cases h3 h4 with rfl | rfl | rfl | rfl | rfl <;> rw [wid (i * _) (by omega), wid _ (by omega)]

theorem number_f (b p y s t i j : Int) (h : mayP b p y s t) : geom_Number.f b p y s t i j = some (if 0 ≤ i ∧ i < b ∧ 0 ≤ j ∧ j < p then i * p + j else -1) := by
  unfold geom_Number.f
  rw [may_f, Option.bind_some, decide_eq_true h, if_pos rfl, is_f, Option.bind_some]
  by_cases h1 : 0 ≤ i ∧ i < b ∧ 0 ≤ j ∧ j < p
  · rw [if_pos h1, decide_eq_true ⟨h, h1⟩, if_pos rfl]
    have g := h
    unfold mayP at g
    rw [num_wrap b p i j (by omega) (by omega) (by omega) h1.1 h1.2.1 h1.2.2.1 h1.2.2.2]
  · rw [if_neg h1, decide_eq_false (fun h' => h1 h'.2)]
    rfl

theorem number_no (b p y s t i j : Int) (h : ¬ mayP b p y s t) : geom_Number.f b p y s t i j = some 0 := by
  unfold geom_Number.f
  rw [may_f, Option.bind_some, decide_eq_false h]
  rfl

theorem next_no (b p y s t i j : Int) (h : ¬ mayP b p y s t) : geom_Next.f b p y s t i j = some (0, 0, false) := by
  unfold geom_Next.f
  rw [number_no _ _ _ _ _ _ _ h, Option.bind_some, may_f, Option.bind_some, decide_eq_false h]
  rfl

theorem range_num {b p i j : Int} (h1 : b ≤ 20) (h3 : 4 ≤ p) (h4 : p ≤ 8) (hi : 0 ≤ i) (hi' : i < b) (hj : 0 ≤ j) (hj' : j < p) : 0 ≤ i * p + j ∧ i * p + j < b * p ∧ b * p ≤ 160 := by
  rcases p_cases h3 h4 with rfl | rfl | rfl | rfl | rfl <;> omega

theorem next_f (b p y s t i j : Int) (h : mayP b p y s t) : geom_Next.f b p y s t i j = some (if (0 ≤ i ∧ i < b ∧ 0 ≤ j ∧ j < p) ∧ i * p + j + 1 ≠ b * p then ((i * p + j + 1) / p, (i * p + j + 1) % p, true) else (0, 0, false)) := by
  unfold geom_Next.f
  rw [number_f _ _ _ _ _ _ _ h, Option.bind_some, may_f, Option.bind_some, decide_eq_true h, if_pos rfl]
  have g := h
  unfold mayP at g
  by_cases h1 : 0 ≤ i ∧ i < b ∧ 0 ≤ j ∧ j < p
  · obtain ⟨r1, r2, r3⟩ := range_num (b := b) (p := p) (i := i) (j := j) (by omega) (by omega) (by omega) h1.1 h1.2.1 h1.2.2.1 h1.2.2.2
    rw [if_pos h1, wid (i * p + j + 1) (by omega), if_neg (by omega), wid (b * p) (by omega)]
    by_cases h2 : i * p + j + 1 = b * p
    · rw [if_pos h2, if_neg (fun h' => h'.2 h2)]
    · rw [if_neg h2, if_neg (by omega), if_pos ⟨h1, h2⟩, Int.tdiv_eq_ediv_of_nonneg (by omega), Int.tmod_eq_emod_of_nonneg (by omega)]
      have : 0 ≤ (i * p + j + 1) / p ∧ (i * p + j + 1) / p ≤ i * p + j + 1 := ⟨Int.ediv_nonneg (by omega) (by omega), Int.ediv_le_self _ (by omega)⟩
      rw [wid _ (by omega)]
  · rw [if_neg h1, if_pos (show wrap64 (-1 + 1) = 0 by decide +kernel), if_neg (fun h' => h1 h'.1)]

theorem num_inj {b p i j i' j' : Int} (h1 : b ≤ 20) (h3 : 4 ≤ p) (h4 : p ≤ 8) (hi : 0 ≤ i) (hi' : i < b) (hj : 0 ≤ j) (hj' : j < p) (ki : 0 ≤ i') (ki' : i' < b) (kj : 0 ≤ j') (kj' : j' < p) : (i * p + j = i' * p + j') ↔ (i = i' ∧ j = j') := by
  rcases p_cases h3 h4 with rfl | rfl | rfl | rfl | rfl <;> omega

theorem j0_f (k : Nat) (b p y s t i j i' j' : Int) (th : Bool) (h : mayP b p y s t) (hth : th = decide (0 ≤ i ∧ i < b ∧ 0 ≤ j ∧ j < p)) :
    jotterlaw5_GeomNumbers.j0 (k + 1) (if 0 ≤ i ∧ i < b ∧ 0 ≤ j ∧ j < p then i * p + j else -1) (if 0 ≤ i' ∧ i' < b ∧ 0 ≤ j' ∧ j' < p then i' * p + j' else -1) th b p y s t i j i' j' = some true := by
  subst hth
  have g := h
  unfold mayP at g
  simp only [jotterlaw5_GeomNumbers.j0, next_f _ _ _ _ _ _ _ h, Option.bind_some, awake_f]
  by_cases h1 : 0 ≤ i ∧ i < b ∧ 0 ≤ j ∧ j < p
  · obtain ⟨r1, r2, r3⟩ := range_num (b := b) (p := p) (i := i) (j := j) (by omega) (by omega) (by omega) h1.1 h1.2.1 h1.2.2.1 h1.2.2.2
    rw [if_pos h1, decide_eq_true h1, decide_eq_true (show i * p + j ≥ 0 by omega), if_neg (by decide), wid (b * p) (by omega), if_neg (by omega), if_pos rfl, wid (b * p - 1) (by omega)]
    have e : ((if (0 ≤ i ∧ i < b ∧ 0 ≤ j ∧ j < p) ∧ i * p + j + 1 ≠ b * p then ((i * p + j + 1) / p, (i * p + j + 1) % p, true) else (0, 0, false)).2.2 != (i * p + j != b * p - 1)) = false := by
      by_cases h2 : i * p + j + 1 = b * p
      · rw [if_neg (fun h' => h'.2 h2), show (i * p + j != b * p - 1) = false by simp; omega]
        rfl
      · rw [if_pos ⟨h1, h2⟩, show (i * p + j != b * p - 1) = true by simp; omega]
        rfl
    rw [e, if_neg (by decide), if_neg (by omega)]
    by_cases h2 : 0 ≤ i' ∧ i' < b ∧ 0 ≤ j' ∧ j' < p
    · obtain ⟨q1, q2, q3⟩ := range_num (b := b) (p := p) (i := i') (j := j') (by omega) (by omega) (by omega) h2.1 h2.2.1 h2.2.2.1 h2.2.2.2
      rw [if_pos h2, if_neg (by omega)]
      have := num_inj (b := b) (p := p) (i := i) (j := j) (i' := i') (j' := j') (by omega) (by omega) (by omega) h1.1 h1.2.1 h1.2.2.1 h1.2.2.2 h2.1 h2.2.1 h2.2.2.1 h2.2.2.2
      rw [if_pos]
      by_cases h3 : i = i' ∧ j = j'
      · obtain ⟨rfl, rfl⟩ := h3
        simp
      · have h4 : ¬ (i * p + j = i' * p + j') := fun h' => h3 (this.1 h')
        rw [beq_eq_false_iff_ne.2 h4]
        by_cases h5 : i = i'
        · have : j ≠ j' := fun h' => h3 ⟨h5, h'⟩
          simp [h5, this]
        · simp [h5]
    · rw [if_neg h2, if_pos (by omega)]
  · rw [if_neg h1, decide_eq_false h1, decide_eq_false (show ¬ ((-1 : Int) ≥ 0) by omega), if_neg (by decide)]
    have r3 : 0 ≤ b * p ∧ b * p ≤ 160 := by rcases p_cases (show 4 ≤ p by omega) (by omega) with e | e | e | e | e <;> rw [e] <;> omega
    rw [wid (b * p) (by omega), if_neg (by omega), if_neg (by decide), if_neg (show ¬ ((if (0 ≤ i ∧ i < b ∧ 0 ≤ j ∧ j < p) ∧ i * p + j + 1 ≠ b * p then ((i * p + j + 1) / p, (i * p + j + 1) % p, true) else (0, 0, false)).2.2 != false) = true by rw [if_neg (fun h' => h1 h'.1)]; decide), if_pos (by omega)]

theorem pure (b p y s t i j i' j' : Int) : ∃ k, jotterlaw5_GeomNumbers.f k b p y s t i j i' j' = some true := by
  refine ⟨1, ?_⟩
  unfold jotterlaw5_GeomNumbers.f
  rw [may_f, Option.bind_some]
  by_cases h : mayP b p y s t
  · rw [decide_eq_true h, if_pos rfl, number_f _ _ _ _ _ _ _ h, Option.bind_some, number_f _ _ _ _ _ _ _ h, Option.bind_some]
    by_cases c1 : i ≥ 0
    · rw [if_pos c1]
      by_cases c2 : i < b
      · rw [if_pos c2]
        by_cases c3 : j ≥ 0
        · rw [if_pos c3]
          exact j0_f 0 _ _ _ _ _ _ _ _ _ _ h (by rw [decide_eq_decide]; omega)
        · rw [if_neg c3]
          exact j0_f 0 _ _ _ _ _ _ _ _ _ _ h (decide_eq_false (by omega)).symm
      · rw [if_neg c2]
        exact j0_f 0 _ _ _ _ _ _ _ _ _ _ h (decide_eq_false (by omega)).symm
    · rw [if_neg c1]
      exact j0_f 0 _ _ _ _ _ _ _ _ _ _ h (decide_eq_false (by omega)).symm
  · rw [decide_eq_false h, if_neg (by decide), awake_f]
    rfl
end Go.Proofs.Ytmpbedjbimimoaa.PGeomNumbers
