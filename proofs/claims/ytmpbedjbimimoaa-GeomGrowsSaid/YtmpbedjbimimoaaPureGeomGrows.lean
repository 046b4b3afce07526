/-
  The plain law of GeomGrows: what the printed Lean functions of geom compute, of a geometry and of a greater one. No condition.
-/
import Derived.Test.YtmpbedjbimimoaaPGeomGrowsx3
import Derived.Test.YtmpbedjbimimoaaPGeomGrowsx4
namespace Go.Proofs.Ytmpbedjbimimoaa.PGeomGrows
open Go.RowKit Go.Proofs.YtmpbedjbimimoaaW.PrintWords Go.Proofs.YtmpbedjbimimoaaW.PrintLast Go.Proofs.YtmpbedjbimimoaaW.PrintMore
set_option linter.unusedVariables false
set_option linter.unusedSimpArgs false

-- plain facts on the printed functions of geom
def mayP (b p y s t : Int) : Prop := 8 ≤ b ∧ b ≤ 20 ∧ 4 ≤ p ∧ p ≤ 8 ∧ 24 ≤ y ∧ y ≤ 64 ∧ 0 ≤ s ∧ s ≤ 4 ∧ 2 ≤ t ∧ t ≤ 20 ∧ 12 ≤ (b - s - 3) * p
instance (b p y s t : Int) : Decidable (mayP b p y s t) := by unfold mayP; infer_instance

theorem p_cases {p : Int} (h : 4 ≤ p) (h' : p ≤ 8) : p = 4 ∨ p = 5 ∨ p = 6 ∨ p = 7 ∨ p = 8 := by omega
theorem wid (x : Int) (h : -9223372036854775808 ≤ x ∧ x ≤ 9223372036854775807) : wrap64 x = x := by unfold wrap64; omega

theorem in_f (a b c : Int) : geom_in.f a b c = some (decide (b ≤ a ∧ a ≤ c)) := by
  unfold geom_in.f
  by_cases h : b ≤ a
  · simp [h]
  · simp [h]

theorem half_f (b p y s t : Int) (h1 : 8 ≤ b) (h2 : b ≤ 20) (h3 : 4 ≤ p) (h4 : p ≤ 8) (h5 : 0 ≤ s) (h6 : s ≤ 4) : geom_half.f b p y s t = some (((b - s - 3) * p - 4) / 2) := by
  unfold geom_half.f
  rw [wid (b - s) (by omega), wid (b - s - 3) (by omega)]
  rcases p_cases h3 h4 with rfl | rfl | rfl | rfl | rfl
  all_goals
    rw [wid ((b - s - 3) * _) (by omega), wid (_ - 4) (by omega), Int.tdiv_eq_ediv_of_nonneg (by omega), wid _ (by omega)]

theorem may_f (b p y s t : Int) : geom_May.f b p y s t = some (decide (mayP b p y s t)) := by
  unfold geom_May.f
  simp only [in_f, Option.bind_some]
  by_cases c1 : 8 ≤ b ∧ b ≤ 20
  · by_cases c2 : 4 ≤ p ∧ p ≤ 8
    · by_cases c3 : 24 ≤ y ∧ y ≤ 64
      · by_cases c4 : 0 ≤ s ∧ s ≤ 4
        · by_cases c5 : 2 ≤ t ∧ t ≤ 20
          · rw [half_f b p y s t c1.1 c1.2 c2.1 c2.2 c4.1 c4.2]
            simp only [decide_eq_true c1, decide_eq_true c2, decide_eq_true c3, decide_eq_true c4, decide_eq_true c5, if_true, Option.bind_some]
            refine congrArg some ?_
            rw [decide_eq_decide]
            unfold mayP
            omega
          · simp only [decide_eq_true c1, decide_eq_true c2, decide_eq_true c3, decide_eq_true c4, decide_eq_false c5, if_true]
            exact congrArg some (decide_eq_false (fun h => c5 (by unfold mayP at h; omega))).symm
        · simp only [decide_eq_true c1, decide_eq_true c2, decide_eq_true c3, decide_eq_false c4, if_true]
          exact congrArg some (decide_eq_false (fun h => c4 (by unfold mayP at h; omega))).symm
      · simp only [decide_eq_true c1, decide_eq_true c2, decide_eq_false c3, if_true]
        exact congrArg some (decide_eq_false (fun h => c3 (by unfold mayP at h; omega))).symm
    · simp only [decide_eq_true c1, decide_eq_false c2, if_true]
      exact congrArg some (decide_eq_false (fun h => c2 (by unfold mayP at h; omega))).symm
  · simp only [decide_eq_false c1]
    exact congrArg some (decide_eq_false (fun h => c1 (by unfold mayP at h; omega))).symm

theorem awake_f : jotterlaw5_awake.f = some true := by decide +kernel



theorem logical_f (b p y s t : Int) (h : mayP b p y s t) : geom_Logical.f b p y s t = some (((b - s - 3) * p - 4) / 2) := by
  unfold geom_Logical.f
  rw [may_f]
  simp only [Option.bind_some, h, decide_true, if_true]
  unfold mayP at h
  rw [half_f b p y s t h.1 h.2.1 h.2.2.1 h.2.2.2.1 h.2.2.2.2.2.2.1 h.2.2.2.2.2.2.2.1]; rfl
theorem bound_f (b p y s t : Int) (h : mayP b p y s t) : geom_Bound.f b p y s t = some (60 * b * b * p) := by
  unfold geom_Bound.f
  rw [may_f]
  simp only [Option.bind_some, h, decide_true, if_true]
  unfold mayP at h
  have hb : b = 8 ∨ b = 9 ∨ b = 10 ∨ b = 11 ∨ b = 12 ∨ b = 13 ∨ b = 14 ∨ b = 15 ∨ b = 16 ∨ b = 17 ∨ b = 18 ∨ b = 19 ∨ b = 20 := by omega
  have hp := p_cases h.2.2.1 h.2.2.2.1
  rcases hb with rfl | rfl | rfl | rfl | rfl | rfl | rfl | rfl | rfl | rfl | rfl | rfl | rfl <;> rcases hp with rfl | rfl | rfl | rfl | rfl <;> decide +kernel

theorem grow_b (b p y s t : Int) (h : mayP b p y s t) (h' : mayP (b + 1) p y s t) : ((b - s - 3) * p - 4) / 2 ≤ ((b + 1 - s - 3) * p - 4) / 2 ∧ 60 * b * b * p < 60 * (b + 1) * (b + 1) * p := by
  unfold mayP at h h'
  have hb : b = 8 ∨ b = 9 ∨ b = 10 ∨ b = 11 ∨ b = 12 ∨ b = 13 ∨ b = 14 ∨ b = 15 ∨ b = 16 ∨ b = 17 ∨ b = 18 ∨ b = 19 := by omega
  have hp := p_cases h.2.2.1 h.2.2.2.1
  rcases hb with rfl | rfl | rfl | rfl | rfl | rfl | rfl | rfl | rfl | rfl | rfl | rfl <;> rcases hp with rfl | rfl | rfl | rfl | rfl <;> omega
theorem grow_p (b p y s t : Int) (h : mayP b p y s t) (h' : mayP b (p + 1) y s t) : ((b - s - 3) * p - 4) / 2 ≤ ((b - s - 3) * (p + 1) - 4) / 2 := by
  unfold mayP at h h'
  have : (b - s - 3) * (p + 1) = (b - s - 3) * p + (b - s - 3) := by rw [Int.mul_add, Int.mul_one]
  omega
theorem grow_s (b p y s t : Int) (h : mayP b p y s t) (h' : mayP b p y (s + 1) t) : ((b - (s + 1) - 3) * p - 4) / 2 ≤ ((b - s - 3) * p - 4) / 2 := by
  unfold mayP at h h'
  have : (b - s - 3) * p = (b - (s + 1) - 3) * p + p := by
    rw [show b - s - 3 = (b - (s + 1) - 3) + 1 by omega, Int.add_mul, Int.one_mul]
  omega
theorem around (b p y s t : Int) (h : mayP b p y s t) : 2 * (((b - s - 3) * p - 4) / 2) + 4 ≤ (b - s - 3) * p ∧ (b - s - 3) * p < 2 * (((b - s - 3) * p - 4) / 2) + 6 ∧ 4 ≤ ((b - s - 3) * p - 4) / 2 ∧ (b - s - 3) * p ≤ 136 := by
  unfold mayP at h
  have hp := p_cases h.2.2.1 h.2.2.2.1
  rcases hp with rfl | rfl | rfl | rfl | rfl <;> omega
end Go.Proofs.Ytmpbedjbimimoaa.PGeomGrows
