/-
  The plain law of GeomTells: what the printed Lean functions of geom compute, and that the law answers true at every input. No condition.
-/
import Derived.Test.YtmpbedjbimimoaaPGeomTellsx5
namespace Go.Proofs.Ytmpbedjbimimoaa.PGeomTells
open Go.RowKit Go.Proofs.YtmpbedjbimimoaaW.PrintWords Go.Proofs.YtmpbedjbimimoaaW.PrintLast Go.Proofs.YtmpbedjbimimoaaW.PrintMore
set_option linter.unusedVariables false

-- plain facts on the printed functions of geom
def mayP (b p y s t : Int) : Prop := 8 ≤ b ∧ b ≤ 20 ∧ 4 ≤ p ∧ p ≤ 8 ∧ 24 ≤ y ∧ y ≤ 64 ∧ 0 ≤ s ∧ s ≤ 4 ∧ 2 ≤ t ∧ t ≤ 20 ∧ 12 ≤ (b - s - 3) * p
instance (b p y s t : Int) : Decidable (mayP b p y s t) := by unfold mayP; infer_instance

theorem p_cases {p : Int} (h : 4 ≤ p) (h' : p ≤ 8) : p = 4 ∨ p = 5 ∨ p = 6 ∨ p = 7 ∨ p = 8 := by omega
theorem wid (x : Int) (h : -9223372036854775808 ≤ x ∧ x ≤ 9223372036854775807) : wrap64 x = x := by unfold wrap64; omega

theorem in_f (a b c : Int) : geom_in.f a b c = some (decide (b ≤ a ∧ a ≤ c)) := by
  unfold geom_in.f
  by_cases h : b ≤ a
  · simp [h]
  · simp [h]

theorem half_f (b p y s t : Int) (h1 : 8 ≤ b) (h2 : b ≤ 20) (h3 : 4 ≤ p) (h4 : p ≤ 8) (h5 : 0 ≤ s) (h6 : s ≤ 4) : geom_half.f b p y s t = some (((b - s - 3) * p - 4) / 2) := by
  unfold geom_half.f
  rw [wid (b - s) (by omega), wid (b - s - 3) (by omega)]
  rcases p_cases h3 h4 with rfl | rfl | rfl | rfl | rfl
  all_goals
    rw [wid ((b - s - 3) * _) (by omega), wid (_ - 4) (by omega), Int.tdiv_eq_ediv_of_nonneg (by omega), wid _ (by omega)]

theorem may_f (b p y s t : Int) : geom_May.f b p y s t = some (decide (mayP b p y s t)) := by
  unfold geom_May.f
  simp only [in_f, Option.bind_some]
  by_cases c1 : 8 ≤ b ∧ b ≤ 20
  · by_cases c2 : 4 ≤ p ∧ p ≤ 8
    · by_cases c3 : 24 ≤ y ∧ y ≤ 64
      · by_cases c4 : 0 ≤ s ∧ s ≤ 4
        · by_cases c5 : 2 ≤ t ∧ t ≤ 20
          · rw [half_f b p y s t c1.1 c1.2 c2.1 c2.2 c4.1 c4.2]
            simp only [decide_eq_true c1, decide_eq_true c2, decide_eq_true c3, decide_eq_true c4, decide_eq_true c5, if_true, Option.bind_some]
            refine congrArg some ?_
            rw [decide_eq_decide]
            unfold mayP
            omega
          · simp only [decide_eq_true c1, decide_eq_true c2, decide_eq_true c3, decide_eq_true c4, decide_eq_false c5, if_true]
            exact congrArg some (decide_eq_false (fun h => c5 (by unfold mayP at h; omega))).symm
        · simp only [decide_eq_true c1, decide_eq_true c2, decide_eq_true c3, decide_eq_false c4, if_true]
          exact congrArg some (decide_eq_false (fun h => c4 (by unfold mayP at h; omega))).symm
      · simp only [decide_eq_true c1, decide_eq_true c2, decide_eq_false c3, if_true]
        exact congrArg some (decide_eq_false (fun h => c3 (by unfold mayP at h; omega))).symm
    · simp only [decide_eq_true c1, decide_eq_false c2, if_true]
      exact congrArg some (decide_eq_false (fun h => c2 (by unfold mayP at h; omega))).symm
  · simp only [decide_eq_false c1]
    exact congrArg some (decide_eq_false (fun h => c1 (by unfold mayP at h; omega))).symm

theorem awake_f : jotterlaw5_awake.f = some true := by decide +kernel

theorem is_f (b p y s t i j : Int) : geom_is.f b p y s t i j = some (decide (mayP b p y s t ∧ 0 ≤ i ∧ i < b ∧ 0 ≤ j ∧ j < p)) := by
  unfold geom_is.f
  rw [may_f, Option.bind_some]
  by_cases h : mayP b p y s t
  · rw [decide_eq_true h, if_pos rfl]
    have g := h
    unfold mayP at g
    simp only [in_f, Option.bind_some]
    rw [wid (b - 1) (by omega), wid (p - 1) (by omega)]
    by_cases h1 : 0 ≤ i ∧ i ≤ b - 1
    · rw [decide_eq_true h1, if_pos rfl]
      congr 1
      rw [decide_eq_decide]
      exact ⟨fun k => ⟨h, by omega⟩, fun ⟨_, k⟩ => by omega⟩
    · rw [decide_eq_false h1]
      exact congrArg some (decide_eq_false (fun h' => h1 (by have := h'.2; omega))).symm
  · rw [decide_eq_false h]
    exact congrArg some (decide_eq_false (fun h' => h h'.1)).symm

theorem num_wrap (b p i j : Int) (h1 : b ≤ 20) (h3 : 4 ≤ p) (h4 : p ≤ 8) (hi : 0 ≤ i) (hi' : i < b) (hj : 0 ≤ j) (hj' : j < p) : wrap64 (wrap64 (i * p) + j) = i * p + j := by
  rcases p_cases h3 h4 with rfl | rfl | rfl | rfl | rfl <;> rw [wid (i * _) (by omega), wid _ (by omega)]

theorem number_f (b p y s t i j : Int) (h : mayP b p y s t) : geom_Number.f b p y s t i j = some (if 0 ≤ i ∧ i < b ∧ 0 ≤ j ∧ j < p then i * p + j else -1) := by
  unfold geom_Number.f
  rw [may_f, Option.bind_some, decide_eq_true h, if_pos rfl, is_f, Option.bind_some]
  by_cases h1 : 0 ≤ i ∧ i < b ∧ 0 ≤ j ∧ j < p
  · rw [if_pos h1, decide_eq_true ⟨h, h1⟩, if_pos rfl]
    have g := h
    unfold mayP at g
    rw [num_wrap b p i j (by omega) (by omega) (by omega) h1.1 h1.2.1 h1.2.2.1 h1.2.2.2]
  · rw [if_neg h1, decide_eq_false (fun h' => h1 h'.2)]
    rfl

theorem number_no (b p y s t i j : Int) (h : ¬ mayP b p y s t) : geom_Number.f b p y s t i j = some 0 := by
  unfold geom_Number.f
  rw [may_f, Option.bind_some, decide_eq_false h]
  rfl

theorem next_no (b p y s t i j : Int) (h : ¬ mayP b p y s t) : geom_Next.f b p y s t i j = some (0, 0, false) := by
  unfold geom_Next.f
  rw [number_no _ _ _ _ _ _ _ h, Option.bind_some, may_f, Option.bind_some, decide_eq_false h]
  rfl

theorem range_num {b p i j : Int} (h1 : b ≤ 20) (h3 : 4 ≤ p) (h4 : p ≤ 8) (hi : 0 ≤ i) (hi' : i < b) (hj : 0 ≤ j) (hj' : j < p) : 0 ≤ i * p + j ∧ i * p + j < b * p ∧ b * p ≤ 160 := by
  rcases p_cases h3 h4 with rfl | rfl | rfl | rfl | rfl <;> omega

theorem next_f (b p y s t i j : Int) (h : mayP b p y s t) : geom_Next.f b p y s t i j = some (if (0 ≤ i ∧ i < b ∧ 0 ≤ j ∧ j < p) ∧ i * p + j + 1 ≠ b * p then ((i * p + j + 1) / p, (i * p + j + 1) % p, true) else (0, 0, false)) := by
  unfold geom_Next.f
  rw [number_f _ _ _ _ _ _ _ h, Option.bind_some, may_f, Option.bind_some, decide_eq_true h, if_pos rfl]
  have g := h
  unfold mayP at g
  by_cases h1 : 0 ≤ i ∧ i < b ∧ 0 ≤ j ∧ j < p
  · obtain ⟨r1, r2, r3⟩ := range_num (b := b) (p := p) (i := i) (j := j) (by omega) (by omega) (by omega) h1.1 h1.2.1 h1.2.2.1 h1.2.2.2
    rw [if_pos h1, wid (i * p + j + 1) (by omega), if_neg (by omega), wid (b * p) (by omega)]
    by_cases h2 : i * p + j + 1 = b * p
    · rw [if_pos h2, if_neg (fun h' => h'.2 h2)]
    · rw [if_neg h2, if_neg (by omega), if_pos ⟨h1, h2⟩, Int.tdiv_eq_ediv_of_nonneg (by omega), Int.tmod_eq_emod_of_nonneg (by omega)]
      have : 0 ≤ (i * p + j + 1) / p ∧ (i * p + j + 1) / p ≤ i * p + j + 1 := ⟨Int.ediv_nonneg (by omega) (by omega), Int.ediv_le_self _ (by omega)⟩
      rw [wid _ (by omega)]
  · rw [if_neg h1, if_pos (show wrap64 (-1 + 1) = 0 by decide +kernel), if_neg (fun h' => h1 h'.1)]

theorem rin_f (a b c : Int) : jotterref5_in.f a b c = some (decide (b ≤ a ∧ a ≤ c)) := by
  unfold jotterref5_in.f
  by_cases h : b ≤ a
  · simp [h]
  · simp [h]

theorem rhalf_f (b p y s t : Int) (h1 : 8 ≤ b) (h2 : b ≤ 20) (h3 : 4 ≤ p) (h4 : p ≤ 8) (h5 : 0 ≤ s) (h6 : s ≤ 4) : jotterref5_half.f b p y s t = some (((b - s - 3) * p - 4) / 2) := by
  unfold jotterref5_half.f
  rw [wid (b - s) (by omega), wid (b - s - 3) (by omega)]
  rcases p_cases h3 h4 with rfl | rfl | rfl | rfl | rfl
  all_goals
    rw [wid ((b - s - 3) * _) (by omega), wid (_ - 4) (by omega)]
    unfold mx
    rw [if_neg (by omega), wid _ (by omega)]

theorem rmay_f (b p y s t : Int) : jotterref5_May.f b p y s t = some (decide (mayP b p y s t)) := by
  unfold jotterref5_May.f
  simp only [rin_f, Option.bind_some]
  by_cases c1 : 8 ≤ b ∧ b ≤ 20
  · by_cases c2 : 4 ≤ p ∧ p ≤ 8
    · by_cases c3 : 24 ≤ y ∧ y ≤ 64
      · by_cases c4 : 0 ≤ s ∧ s ≤ 4
        · by_cases c5 : 2 ≤ t ∧ t ≤ 20
          · rw [rhalf_f b p y s t c1.1 c1.2 c2.1 c2.2 c4.1 c4.2]
            simp only [decide_eq_true c1, decide_eq_true c2, decide_eq_true c3, decide_eq_true c4, decide_eq_true c5, if_true, Option.bind_some]
            refine congrArg some ?_
            rw [decide_eq_decide]
            unfold mayP
            omega
          · simp only [decide_eq_true c1, decide_eq_true c2, decide_eq_true c3, decide_eq_true c4, decide_eq_false c5, if_true]
            exact congrArg some (decide_eq_false (fun h => c5 (by unfold mayP at h; omega))).symm
        · simp only [decide_eq_true c1, decide_eq_true c2, decide_eq_true c3, decide_eq_false c4, if_true]
          exact congrArg some (decide_eq_false (fun h => c4 (by unfold mayP at h; omega))).symm
      · simp only [decide_eq_true c1, decide_eq_true c2, decide_eq_false c3, if_true]
        exact congrArg some (decide_eq_false (fun h => c3 (by unfold mayP at h; omega))).symm
    · simp only [decide_eq_true c1, decide_eq_false c2, if_true]
      exact congrArg some (decide_eq_false (fun h => c2 (by unfold mayP at h; omega))).symm
  · simp only [decide_eq_false c1]
    exact congrArg some (decide_eq_false (fun h => c1 (by unfold mayP at h; omega))).symm

theorem rthere_f (b p y s t i j : Int) : jotterref5_There.f b p y s t i j = some (decide (mayP b p y s t ∧ 0 ≤ i ∧ i < b ∧ 0 ≤ j ∧ j < p)) := by
  unfold jotterref5_There.f
  rw [rmay_f, Option.bind_some]
  by_cases h : mayP b p y s t
  · rw [decide_eq_true h, if_pos rfl]
    have g := h
    unfold mayP at g
    simp only [rin_f, Option.bind_some]
    rw [wid (b - 1) (by omega), wid (p - 1) (by omega)]
    by_cases h1 : 0 ≤ i ∧ i ≤ b - 1
    · rw [decide_eq_true h1, if_pos rfl]
      congr 1
      rw [decide_eq_decide]
      exact ⟨fun k => ⟨h, by omega⟩, fun ⟨_, k⟩ => by omega⟩
    · rw [decide_eq_false h1]
      exact congrArg some (decide_eq_false (fun h' => h1 (by have := h'.2; omega))).symm
  · rw [decide_eq_false h]
    exact congrArg some (decide_eq_false (fun h' => h h'.1)).symm

theorem eqLogical (b p y s t : Int) : ∃ v, geom_Logical.f b p y s t = some v ∧ jotterref5_Logical.f b p y s t = some v := by
  unfold geom_Logical.f jotterref5_Logical.f
  rw [may_f, rmay_f]
  simp only [Option.bind_some]
  by_cases h : mayP b p y s t
  · have g := h
    unfold mayP at g
    rw [decide_eq_true h]
    simp only [if_true]
    rw [half_f b p y s t (by omega) (by omega) (by omega) (by omega) (by omega) (by omega), rhalf_f b p y s t (by omega) (by omega) (by omega) (by omega) (by omega) (by omega)]
    exact ⟨_, rfl, rfl⟩
  · rw [decide_eq_false h]
    exact ⟨0, rfl, rfl⟩

theorem eqRaw (b p y s t : Int) : ∃ v, geom_Raw.f b p y s t = some v ∧ jotterref5_Raw.f b p y s t = some v := by
  unfold geom_Raw.f jotterref5_Raw.f geom_when.f
  rw [may_f, rmay_f]
  simp only [Option.bind_some]
  by_cases h : mayP b p y s t
  · rw [decide_eq_true h]
    exact ⟨_, rfl, rfl⟩
  · rw [decide_eq_false h]
    exact ⟨0, (by show some (wrap64 (0 + 0)) = some 0; decide +kernel), rfl⟩

theorem eqBound (b p y s t : Int) : ∃ v, geom_Bound.f b p y s t = some v ∧ jotterref5_Bound.f b p y s t = some v := by
  unfold geom_Bound.f jotterref5_Bound.f
  rw [may_f, rmay_f]
  simp only [Option.bind_some]
  by_cases h : mayP b p y s t
  · rw [decide_eq_true h]
    exact ⟨_, rfl, rfl⟩
  · rw [decide_eq_false h]
    exact ⟨0, rfl, rfl⟩

theorem eqSlack (b p y s t : Int) : ∃ v, geom_Slack.f b p y s t = some v ∧ jotterref5_Slack.f b p y s t = some v := by
  unfold geom_Slack.f jotterref5_Slack.f
  rw [may_f, rmay_f]
  simp only [Option.bind_some]
  by_cases h : mayP b p y s t
  · rw [decide_eq_true h]
    exact ⟨_, rfl, rfl⟩
  · rw [decide_eq_false h]
    exact ⟨0, rfl, rfl⟩

theorem eqNumber (b p y s t i j : Int) : ∃ v, geom_Number.f b p y s t i j = some v ∧ jotterref5_Number.f b p y s t i j = some v := by
  unfold geom_Number.f jotterref5_Number.f
  rw [may_f, rmay_f, is_f, rthere_f]
  simp only [Option.bind_some]
  by_cases h : mayP b p y s t
  · rw [decide_eq_true h]
    simp only [if_true]
    by_cases h1 : mayP b p y s t ∧ 0 ≤ i ∧ i < b ∧ 0 ≤ j ∧ j < p
    · rw [decide_eq_true h1]
      exact ⟨_, rfl, rfl⟩
    · rw [decide_eq_false h1]
      exact ⟨_, rfl, rfl⟩
  · rw [decide_eq_false h]
    exact ⟨0, rfl, rfl⟩

theorem eqNext (b p y s t i j : Int) : ∃ v, geom_Next.f b p y s t i j = some v ∧ jotterref5_Next.f b p y s t i j = some v := by
  by_cases h : mayP b p y s t
  · have g := h
    unfold mayP at g
    refine ⟨_, next_f _ _ _ _ _ _ _ h, ?_⟩
    unfold jotterref5_Next.f
    rw [rthere_f, Option.bind_some]
    by_cases h1 : 0 ≤ i ∧ i < b ∧ 0 ≤ j ∧ j < p
    · have h1' : mayP b p y s t ∧ 0 ≤ i ∧ i < b ∧ 0 ≤ j ∧ j < p := ⟨h, h1⟩
      obtain ⟨r1, r2, r3⟩ := range_num (b := b) (p := p) (i := i) (j := j) (by omega) (by omega) (by omega) h1.1 h1.2.1 h1.2.2.1 h1.2.2.2
      rw [decide_eq_true h1', if_pos rfl, wid (b - 1) (by omega), wid (p - 1) (by omega), num_wrap b p i j (by omega) (by omega) (by omega) h1.1 h1.2.1 h1.2.2.1 h1.2.2.2, wid (i * p + j + 1) (by omega), Int.tdiv_eq_ediv_of_nonneg (by omega), Int.tmod_eq_emod_of_nonneg (by omega)]
      have hq : 0 ≤ (i * p + j + 1) / p ∧ (i * p + j + 1) / p ≤ i * p + j + 1 := ⟨Int.ediv_nonneg (by omega) (by omega), Int.ediv_le_self _ (by omega)⟩
      rw [wid _ (by omega)]
      have hlast : i * p + j + 1 = b * p ↔ (i = b - 1 ∧ j = p - 1) := by
        rcases p_cases (show 4 ≤ p by omega) (by omega) with rfl | rfl | rfl | rfl | rfl <;> omega
      by_cases h2 : i = b - 1
      · rw [if_pos h2]
        by_cases h3 : j = p - 1
        · rw [if_pos h3, if_neg (fun h' => h'.2 (hlast.2 ⟨h2, h3⟩))]
        · rw [if_neg h3, if_neg (by omega), if_pos ⟨h1, fun h' => h3 (hlast.1 h').2⟩]
      · rw [if_neg h2, if_neg (by omega), if_pos ⟨h1, fun h' => h2 (hlast.1 h').1⟩]
    · rw [decide_eq_false (fun h' : mayP b p y s t ∧ 0 ≤ i ∧ i < b ∧ 0 ≤ j ∧ j < p => h1 h'.2), if_neg (fun h' : (0 ≤ i ∧ i < b ∧ 0 ≤ j ∧ j < p) ∧ _ => h1 h'.1)]
      rfl
  · refine ⟨_, next_no _ _ _ _ _ _ _ h, ?_⟩
    unfold jotterref5_Next.f
    rw [rthere_f, Option.bind_some, decide_eq_false (fun h' => h h'.1)]
    rfl

theorem pure (b p y s t i j : Int) : jotterlaw5_GeomTells.f b p y s t i j = some true := by
  unfold jotterlaw5_GeomTells.f
  obtain ⟨v1, a1, b1⟩ := eqNext b p y s t i j
  obtain ⟨v2, a2, b2⟩ := eqLogical b p y s t
  obtain ⟨v3, a3, b3⟩ := eqRaw b p y s t
  obtain ⟨v4, a4, b4⟩ := eqBound b p y s t
  obtain ⟨v5, a5, b5⟩ := eqSlack b p y s t
  obtain ⟨v6, a6, b6⟩ := eqNumber b p y s t i j
  rw [a1, b1, a2, b2, a3, b3, a4, b4, a5, b5, a6, b6, may_f, rmay_f, awake_f]
  simp only [Option.bind_some, beq_self_eq_true, if_true, Bool.and_self]
end Go.Proofs.Ytmpbedjbimimoaa.PGeomTells
