/-
  The plain law of GeomLow: what the printed Lean functions of geom compute, and that the law answers true at every input. No condition.
-/
import Derived.Test.YtmpbedjbimimoaaPGeomLowx4
namespace Go.Proofs.Ytmpbedjbimimoaa.PGeomLow
open Go.RowKit Go.Proofs.YtmpbedjbimimoaaW.PrintWords Go.Proofs.YtmpbedjbimimoaaW.PrintLast Go.Proofs.YtmpbedjbimimoaaW.PrintMore
set_option linter.unusedVariables false

-- plain facts on the printed functions of geom
def mayP (b p y s t : Int) : Prop := 8 ≤ b ∧ b ≤ 20 ∧ 4 ≤ p ∧ p ≤ 8 ∧ 24 ≤ y ∧ y ≤ 64 ∧ 0 ≤ s ∧ s ≤ 4 ∧ 2 ≤ t ∧ t ≤ 20 ∧ 12 ≤ (b - s - 3) * p
instance (b p y s t : Int) : Decidable (mayP b p y s t) := by unfold mayP; infer_instance

theorem p_cases {p : Int} (h : 4 ≤ p) (h' : p ≤ 8) : p = 4 ∨ p = 5 ∨ p = 6 ∨ p = 7 ∨ p = 8 := by omega
theorem wid (x : Int) (h : -9223372036854775808 ≤ x ∧ x ≤ 9223372036854775807) : wrap64 x = x := by unfold wrap64; omega

theorem in_f (a b c : Int) : geom_in.f a b c = some (decide (b ≤ a ∧ a ≤ c)) := by
  unfold geom_in.f
  by_cases h : b ≤ a
  · simp [h]
  · simp [h]

theorem half_f (b p y s t : Int) (h1 : 8 ≤ b) (h2 : b ≤ 20) (h3 : 4 ≤ p) (h4 : p ≤ 8) (h5 : 0 ≤ s) (h6 : s ≤ 4) : geom_half.f b p y s t = some (((b - s - 3) * p - 4) / 2) := by
  unfold geom_half.f
  rw [wid (b - s) (by omega), wid (b - s - 3) (by omega)]
  rcases p_cases h3 h4 with rfl | rfl | rfl | rfl | rfl
  all_goals
    rw [wid ((b - s - 3) * _) (by omega), wid (_ - 4) (by omega), Int.tdiv_eq_ediv_of_nonneg (by omega), wid _ (by omega)]

theorem may_f (b p y s t : Int) : geom_May.f b p y s t = some (decide (mayP b p y s t)) := by
  unfold geom_May.f
  simp only [in_f, Option.bind_some]
  by_cases c1 : 8 ≤ b ∧ b ≤ 20
  · by_cases c2 : 4 ≤ p ∧ p ≤ 8
    · by_cases c3 : 24 ≤ y ∧ y ≤ 64
      · by_cases c4 : 0 ≤ s ∧ s ≤ 4
        · by_cases c5 : 2 ≤ t ∧ t ≤ 20
          · rw [half_f b p y s t c1.1 c1.2 c2.1 c2.2 c4.1 c4.2]
            simp only [decide_eq_true c1, decide_eq_true c2, decide_eq_true c3, decide_eq_true c4, decide_eq_true c5, if_true, Option.bind_some]
            refine congrArg some ?_
            rw [decide_eq_decide]
            unfold mayP
            omega
          · simp only [decide_eq_true c1, decide_eq_true c2, decide_eq_true c3, decide_eq_true c4, decide_eq_false c5, if_true]
            exact congrArg some (decide_eq_false (fun h => c5 (by unfold mayP at h; omega))).symm
        · simp only [decide_eq_true c1, decide_eq_true c2, decide_eq_true c3, decide_eq_false c4, if_true]
          exact congrArg some (decide_eq_false (fun h => c4 (by unfold mayP at h; omega))).symm
      · simp only [decide_eq_true c1, decide_eq_true c2, decide_eq_false c3, if_true]
        exact congrArg some (decide_eq_false (fun h => c3 (by unfold mayP at h; omega))).symm
    · simp only [decide_eq_true c1, decide_eq_false c2, if_true]
      exact congrArg some (decide_eq_false (fun h => c2 (by unfold mayP at h; omega))).symm
  · simp only [decide_eq_false c1]
    exact congrArg some (decide_eq_false (fun h => c1 (by unfold mayP at h; omega))).symm

theorem awake_f : jotterlaw5_awake.f = some true := by decide +kernel

theorem is_f (b p y s t i j : Int) : geom_is.f b p y s t i j = some (decide (mayP b p y s t ∧ 0 ≤ i ∧ i < b ∧ 0 ≤ j ∧ j < p)) := by
  unfold geom_is.f
  rw [may_f, Option.bind_some]
  by_cases h : mayP b p y s t
  · rw [decide_eq_true h, if_pos rfl]
    have g := h
    unfold mayP at g
    simp only [in_f, Option.bind_some]
    rw [wid (b - 1) (by omega), wid (p - 1) (by omega)]
    by_cases h1 : 0 ≤ i ∧ i ≤ b - 1
    · rw [decide_eq_true h1, if_pos rfl]
      congr 1
      rw [decide_eq_decide]
      exact ⟨fun k => ⟨h, by omega⟩, fun ⟨_, k⟩ => by omega⟩
    · rw [decide_eq_false h1]
      exact congrArg some (decide_eq_false (fun h' => h1 (by have := h'.2; omega))).symm
  · rw [decide_eq_false h]
    exact congrArg some (decide_eq_false (fun h' => h h'.1)).symm

theorem num_wrap (b p i j : Int) (h1 : b ≤ 20) (h3 : 4 ≤ p) (h4 : p ≤ 8) (hi : 0 ≤ i) (hi' : i < b) (hj : 0 ≤ j) (hj' : j < p) : wrap64 (wrap64 (i * p) + j) = i * p + j := by
  rcases p_cases h3 h4 with rfl | rfl | rfl | rfl | rfl <;> rw [wid (i * _) (by omega), wid _ (by omega)]

theorem number_f (b p y s t i j : Int) (h : mayP b p y s t) : geom_Number.f b p y s t i j = some (if 0 ≤ i ∧ i < b ∧ 0 ≤ j ∧ j < p then i * p + j else -1) := by
  unfold geom_Number.f
  rw [may_f, Option.bind_some, decide_eq_true h, if_pos rfl, is_f, Option.bind_some]
  by_cases h1 : 0 ≤ i ∧ i < b ∧ 0 ≤ j ∧ j < p
  · rw [if_pos h1, decide_eq_true ⟨h, h1⟩, if_pos rfl]
    have g := h
    unfold mayP at g
    rw [num_wrap b p i j (by omega) (by omega) (by omega) h1.1 h1.2.1 h1.2.2.1 h1.2.2.2]
  · rw [if_neg h1, decide_eq_false (fun h' => h1 h'.2)]
    rfl

theorem number_no (b p y s t i j : Int) (h : ¬ mayP b p y s t) : geom_Number.f b p y s t i j = some 0 := by
  unfold geom_Number.f
  rw [may_f, Option.bind_some, decide_eq_false h]
  rfl

theorem next_no (b p y s t i j : Int) (h : ¬ mayP b p y s t) : geom_Next.f b p y s t i j = some (0, 0, false) := by
  unfold geom_Next.f
  rw [number_no _ _ _ _ _ _ _ h, Option.bind_some, may_f, Option.bind_some, decide_eq_false h]
  rfl

theorem range_num {b p i j : Int} (h1 : b ≤ 20) (h3 : 4 ≤ p) (h4 : p ≤ 8) (hi : 0 ≤ i) (hi' : i < b) (hj : 0 ≤ j) (hj' : j < p) : 0 ≤ i * p + j ∧ i * p + j < b * p ∧ b * p ≤ 160 := by
  rcases p_cases h3 h4 with rfl | rfl | rfl | rfl | rfl <;> omega

theorem next_f (b p y s t i j : Int) (h : mayP b p y s t) : geom_Next.f b p y s t i j = some (if (0 ≤ i ∧ i < b ∧ 0 ≤ j ∧ j < p) ∧ i * p + j + 1 ≠ b * p then ((i * p + j + 1) / p, (i * p + j + 1) % p, true) else (0, 0, false)) := by
  unfold geom_Next.f
  rw [number_f _ _ _ _ _ _ _ h, Option.bind_some, may_f, Option.bind_some, decide_eq_true h, if_pos rfl]
  have g := h
  unfold mayP at g
  by_cases h1 : 0 ≤ i ∧ i < b ∧ 0 ≤ j ∧ j < p
  · obtain ⟨r1, r2, r3⟩ := range_num (b := b) (p := p) (i := i) (j := j) (by omega) (by omega) (by omega) h1.1 h1.2.1 h1.2.2.1 h1.2.2.2
    rw [if_pos h1, wid (i * p + j + 1) (by omega), if_neg (by omega), wid (b * p) (by omega)]
    by_cases h2 : i * p + j + 1 = b * p
    · rw [if_pos h2, if_neg (fun h' => h'.2 h2)]
    · rw [if_neg h2, if_neg (by omega), if_pos ⟨h1, h2⟩, Int.tdiv_eq_ediv_of_nonneg (by omega), Int.tmod_eq_emod_of_nonneg (by omega)]
      have : 0 ≤ (i * p + j + 1) / p ∧ (i * p + j + 1) / p ≤ i * p + j + 1 := ⟨Int.ediv_nonneg (by omega) (by omega), Int.ediv_le_self _ (by omega)⟩
      rw [wid _ (by omega)]
  · rw [if_neg h1, if_pos (show wrap64 (-1 + 1) = 0 by decide +kernel), if_neg (fun h' => h1 h'.1)]

theorem low_f (x n : Int) (h0 : 1 ≤ n) (h1 : n ≤ 1000) : ∃ r, jotterlaw0_Low.f x n = some r ∧ 0 ≤ r ∧ r < n := by
  unfold jotterlaw0_Low.f
  have e : IntKind.u64.wrap n = n := by
    show n % 18446744073709551616 = n
    omega
  have hx : 0 ≤ IntKind.u64.wrap x := by
    show 0 ≤ x % 18446744073709551616
    omega
  rw [e, if_neg (by omega), Int.tmod_eq_emod_of_nonneg hx]
  have h2 : 0 ≤ IntKind.u64.wrap x % n := Int.emod_nonneg _ (by omega)
  have h3 : IntKind.u64.wrap x % n < n := Int.emod_lt_of_pos _ (by omega)
  refine ⟨_, rfl, ?_⟩
  rw [wid _ (by omega)]
  exact ⟨h2, h3⟩

theorem j0_f (k : Nat) (b p y s t : Int) (h : ¬ mayP b p y s t) : jotterlaw5_GeomLow.j0 (k + 1) b p y s t = some true := by
  have e := may_f b p y s t
  rw [decide_eq_false h] at e
  have l : geom_Logical.f b p y s t = some 0 := by unfold geom_Logical.f; rw [e]; rfl
  have n : geom_Number.f b p y s t 0 0 = some 0 := number_no _ _ _ _ _ _ _ h
  have o : geom_Bound.f b p y s t = some 0 := by unfold geom_Bound.f; rw [e]; rfl
  have a : geom_Slack.f b p y s t = some 0 := by unfold geom_Slack.f; rw [e]; rfl
  have w : ∀ z, geom_when.f b p y s t z = some 0 := by intro z; unfold geom_when.f; rw [e]; rfl
  have u : geom_Raw.f b p y s t = some 0 := by unfold geom_Raw.f; rw [w, w]; decide +kernel
  simp only [jotterlaw5_GeomLow.j0]
  rw [e, l, n, o, a, u, awake_f]
  rfl

theorem pure (b p y s t which by_ : Int) : ∃ k, jotterlaw5_GeomLow.f k b p y s t which by_ = some true := by
  refine ⟨1, ?_⟩
  unfold jotterlaw5_GeomLow.f
  rw [may_f, Option.bind_some]
  by_cases h : mayP b p y s t
  · obtain ⟨r, hr, r0, r1⟩ := low_f by_ 1000 (by omega) (by omega)
    obtain ⟨q, hq, -, -⟩ := low_f which 10 (by omega) (by omega)
    rw [decide_eq_true h, if_pos rfl, hr, Option.bind_some, hq, Option.bind_some, wid (1 + r) (by omega)]
    have no : ∀ b p y s t, ¬ mayP b p y s t → jotterlaw5_GeomLow.j0 1 b p y s t = some true := fun b p y s t h => j0_f 0 b p y s t h
    by_cases c0 : q = 0
    · rw [if_pos c0, wid _ (by omega)]; exact no _ _ _ _ _ (fun h => by unfold mayP at h; omega)
    rw [if_neg c0]
    by_cases c1 : q = 1
    · rw [if_pos c1, wid _ (by omega)]; exact no _ _ _ _ _ (fun h => by unfold mayP at h; omega)
    rw [if_neg c1]
    by_cases c2 : q = 2
    · rw [if_pos c2, wid _ (by omega)]; exact no _ _ _ _ _ (fun h => by unfold mayP at h; omega)
    rw [if_neg c2]
    by_cases c3 : q = 3
    · rw [if_pos c3, wid _ (by omega)]; exact no _ _ _ _ _ (fun h => by unfold mayP at h; omega)
    rw [if_neg c3]
    by_cases c4 : q = 4
    · rw [if_pos c4, wid _ (by omega)]; exact no _ _ _ _ _ (fun h => by unfold mayP at h; omega)
    rw [if_neg c4]
    by_cases c5 : q = 5
    · rw [if_pos c5, wid _ (by omega)]; exact no _ _ _ _ _ (fun h => by unfold mayP at h; omega)
    rw [if_neg c5]
    by_cases c6 : q = 6
    · rw [if_pos c6, wid _ (by omega)]; exact no _ _ _ _ _ (fun h => by unfold mayP at h; omega)
    rw [if_neg c6]
    by_cases c7 : q = 7
    · rw [if_pos c7, wid _ (by omega)]; exact no _ _ _ _ _ (fun h => by unfold mayP at h; omega)
    rw [if_neg c7]
    by_cases c8 : q = 8
    · rw [if_pos c8, wid _ (by omega)]; exact no _ _ _ _ _ (fun h => by unfold mayP at h; omega)
    rw [if_neg c8, wid _ (by omega)]; exact no _ _ _ _ _ (fun h => by unfold mayP at h; omega)
  · rw [decide_eq_false h, if_neg (by decide), awake_f]
    rfl
end Go.Proofs.Ytmpbedjbimimoaa.PGeomLow
