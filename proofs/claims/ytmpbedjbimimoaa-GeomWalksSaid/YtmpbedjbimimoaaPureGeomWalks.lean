/-
  The plain law of GeomWalks: what the printed Lean functions of geom compute, and that the law answers true at every input. No condition.
-/
import Derived.Test.YtmpbedjbimimoaaPGeomWalksx4
namespace Go.Proofs.Ytmpbedjbimimoaa.PGeomWalks
open Go.RowKit Go.Proofs.YtmpbedjbimimoaaW.PrintWords Go.Proofs.YtmpbedjbimimoaaW.PrintLast Go.Proofs.YtmpbedjbimimoaaW.PrintMore
set_option linter.unusedVariables false

-- plain facts on the printed functions of geom
def mayP (b p y s t : Int) : Prop := 8 ≤ b ∧ b ≤ 20 ∧ 4 ≤ p ∧ p ≤ 8 ∧ 24 ≤ y ∧ y ≤ 64 ∧ 0 ≤ s ∧ s ≤ 4 ∧ 2 ≤ t ∧ t ≤ 20 ∧ 12 ≤ (b - s - 3) * p
instance (b p y s t : Int) : Decidable (mayP b p y s t) := by unfold mayP; infer_instance

theorem p_cases {p : Int} (h : 4 ≤ p) (h' : p ≤ 8) : p = 4 ∨ p = 5 ∨ p = 6 ∨ p = 7 ∨ p = 8 := by omega
theorem wid (x : Int) (h : -9223372036854775808 ≤ x ∧ x ≤ 9223372036854775807) : wrap64 x = x := by unfold wrap64; omega

theorem in_f (a b c : Int) : geom_in.f a b c = some (decide (b ≤ a ∧ a ≤ c)) := by
  unfold geom_in.f
  by_cases h : b ≤ a
  · simp [h]
  · simp [h]

theorem half_f (b p y s t : Int) (h1 : 8 ≤ b) (h2 : b ≤ 20) (h3 : 4 ≤ p) (h4 : p ≤ 8) (h5 : 0 ≤ s) (h6 : s ≤ 4) : geom_half.f b p y s t = some (((b - s - 3) * p - 4) / 2) := by
  unfold geom_half.f
  rw [wid (b - s) (by omega), wid (b - s - 3) (by omega)]
  rcases p_cases h3 h4 with rfl | rfl | rfl | rfl | rfl
  all_goals
    rw [wid ((b - s - 3) * _) (by omega), wid (_ - 4) (by omega), Int.tdiv_eq_ediv_of_nonneg (by omega), wid _ (by omega)]

theorem may_f (b p y s t : Int) : geom_May.f b p y s t = some (decide (mayP b p y s t)) := by
  unfold geom_May.f
  simp only [in_f, Option.bind_some]
  by_cases c1 : 8 ≤ b ∧ b ≤ 20
  · by_cases c2 : 4 ≤ p ∧ p ≤ 8
    · by_cases c3 : 24 ≤ y ∧ y ≤ 64
      · by_cases c4 : 0 ≤ s ∧ s ≤ 4
        · by_cases c5 : 2 ≤ t ∧ t ≤ 20
          · rw [half_f b p y s t c1.1 c1.2 c2.1 c2.2 c4.1 c4.2]
            simp only [decide_eq_true c1, decide_eq_true c2, decide_eq_true c3, decide_eq_true c4, decide_eq_true c5, if_true, Option.bind_some]
            refine congrArg some ?_
            rw [decide_eq_decide]
            unfold mayP
            omega
          · simp only [decide_eq_true c1, decide_eq_true c2, decide_eq_true c3, decide_eq_true c4, decide_eq_false c5, if_true]
            exact congrArg some (decide_eq_false (fun h => c5 (by unfold mayP at h; omega))).symm
        · simp only [decide_eq_true c1, decide_eq_true c2, decide_eq_true c3, decide_eq_false c4, if_true]
          exact congrArg some (decide_eq_false (fun h => c4 (by unfold mayP at h; omega))).symm
      · simp only [decide_eq_true c1, decide_eq_true c2, decide_eq_false c3, if_true]
        exact congrArg some (decide_eq_false (fun h => c3 (by unfold mayP at h; omega))).symm
    · simp only [decide_eq_true c1, decide_eq_false c2, if_true]
      exact congrArg some (decide_eq_false (fun h => c2 (by unfold mayP at h; omega))).symm
  · simp only [decide_eq_false c1]
    exact congrArg some (decide_eq_false (fun h => c1 (by unfold mayP at h; omega))).symm

theorem awake_f : jotterlaw5_awake.f = some true := by decide +kernel

theorem is_f (b p y s t i j : Int) : geom_is.f b p y s t i j = some (decide (mayP b p y s t ∧ 0 ≤ i ∧ i < b ∧ 0 ≤ j ∧ j < p)) := by
  unfold geom_is.f
  rw [may_f, Option.bind_some]
  by_cases h : mayP b p y s t
  · rw [decide_eq_true h, if_pos rfl]
    have g := h
    unfold mayP at g
    simp only [in_f, Option.bind_some]
    rw [wid (b - 1) (by omega), wid (p - 1) (by omega)]
    by_cases h1 : 0 ≤ i ∧ i ≤ b - 1
    · rw [decide_eq_true h1, if_pos rfl]
      congr 1
      rw [decide_eq_decide]
      exact ⟨fun k => ⟨h, by omega⟩, fun ⟨_, k⟩ => by omega⟩
    · rw [decide_eq_false h1]
      exact congrArg some (decide_eq_false (fun h' => h1 (by have := h'.2; omega))).symm
  · rw [decide_eq_false h]
    exact congrArg some (decide_eq_false (fun h' => h h'.1)).symm

theorem num_wrap (b p i j : Int) (h1 : b ≤ 20) (h3 : 4 ≤ p) (h4 : p ≤ 8) (hi : 0 ≤ i) (hi' : i < b) (hj : 0 ≤ j) (hj' : j < p) : wrap64 (wrap64 (i * p) + j) = i * p + j := by
  rcases p_cases h3 h4 with rfl | rfl | rfl | rfl | rfl <;> rw [wid (i * _) (by omega), wid _ (by omega)]

theorem number_f (b p y s t i j : Int) (h : mayP b p y s t) : geom_Number.f b p y s t i j = some (if 0 ≤ i ∧ i < b ∧ 0 ≤ j ∧ j < p then i * p + j else -1) := by
  unfold geom_Number.f
  rw [may_f, Option.bind_some, decide_eq_true h, if_pos rfl, is_f, Option.bind_some]
  by_cases h1 : 0 ≤ i ∧ i < b ∧ 0 ≤ j ∧ j < p
  · rw [if_pos h1, decide_eq_true ⟨h, h1⟩, if_pos rfl]
    have g := h
    unfold mayP at g
    rw [num_wrap b p i j (by omega) (by omega) (by omega) h1.1 h1.2.1 h1.2.2.1 h1.2.2.2]
  · rw [if_neg h1, decide_eq_false (fun h' => h1 h'.2)]
    rfl

theorem number_no (b p y s t i j : Int) (h : ¬ mayP b p y s t) : geom_Number.f b p y s t i j = some 0 := by
  unfold geom_Number.f
  rw [may_f, Option.bind_some, decide_eq_false h]
  rfl

theorem next_no (b p y s t i j : Int) (h : ¬ mayP b p y s t) : geom_Next.f b p y s t i j = some (0, 0, false) := by
  unfold geom_Next.f
  rw [number_no _ _ _ _ _ _ _ h, Option.bind_some, may_f, Option.bind_some, decide_eq_false h]
  rfl

theorem range_num {b p i j : Int} (h1 : b ≤ 20) (h3 : 4 ≤ p) (h4 : p ≤ 8) (hi : 0 ≤ i) (hi' : i < b) (hj : 0 ≤ j) (hj' : j < p) : 0 ≤ i * p + j ∧ i * p + j < b * p ∧ b * p ≤ 160 := by
  rcases p_cases h3 h4 with rfl | rfl | rfl | rfl | rfl <;> omega

theorem next_f (b p y s t i j : Int) (h : mayP b p y s t) : geom_Next.f b p y s t i j = some (if (0 ≤ i ∧ i < b ∧ 0 ≤ j ∧ j < p) ∧ i * p + j + 1 ≠ b * p then ((i * p + j + 1) / p, (i * p + j + 1) % p, true) else (0, 0, false)) := by
  unfold geom_Next.f
  rw [number_f _ _ _ _ _ _ _ h, Option.bind_some, may_f, Option.bind_some, decide_eq_true h, if_pos rfl]
  have g := h
  unfold mayP at g
  by_cases h1 : 0 ≤ i ∧ i < b ∧ 0 ≤ j ∧ j < p
  · obtain ⟨r1, r2, r3⟩ := range_num (b := b) (p := p) (i := i) (j := j) (by omega) (by omega) (by omega) h1.1 h1.2.1 h1.2.2.1 h1.2.2.2
    rw [if_pos h1, wid (i * p + j + 1) (by omega), if_neg (by omega), wid (b * p) (by omega)]
    by_cases h2 : i * p + j + 1 = b * p
    · rw [if_pos h2, if_neg (fun h' => h'.2 h2)]
    · rw [if_neg h2, if_neg (by omega), if_pos ⟨h1, h2⟩, Int.tdiv_eq_ediv_of_nonneg (by omega), Int.tmod_eq_emod_of_nonneg (by omega)]
      have : 0 ≤ (i * p + j + 1) / p ∧ (i * p + j + 1) / p ≤ i * p + j + 1 := ⟨Int.ediv_nonneg (by omega) (by omega), Int.ediv_le_self _ (by omega)⟩
      rw [wid _ (by omega)]
  · rw [if_neg h1, if_pos (show wrap64 (-1 + 1) = 0 by decide +kernel), if_neg (fun h' => h1 h'.1)]

theorem place_ok {b p n : Int} (hb1 : 8 ≤ b) (hb : b ≤ 20) (hp : 4 ≤ p) (hp' : p ≤ 8) (h0 : 0 ≤ n) (h1 : n < b * p) : 0 ≤ n / p ∧ n / p < b ∧ 0 ≤ n % p ∧ n % p < p ∧ n / p * p + n % p = n := by
  rcases p_cases hp hp' with rfl | rfl | rfl | rfl | rfl <;> omega

theorem loop_f (b p y s t : Int) (h : mayP b p y s t) (d : Nat) : ∀ (k : Nat) (n : Int), 0 ≤ n → n < b * p → b * p - 1 - n = d → 2 * d + 2 ≤ k → jotterlaw5_GeomWalks.l0 k n n b p y s t (n / p) (n % p) = some true := by
  have g := h
  unfold mayP at g
  have r3 : b * p ≤ 160 := by rcases p_cases (show 4 ≤ p by omega) (by omega) with e | e | e | e | e <;> rw [e] <;> omega
  induction d with
  | zero =>
    intro k n h0 h1 hd hk
    obtain ⟨k, rfl⟩ : ∃ m, k = m + 2 := ⟨k - 2, by omega⟩
    obtain ⟨a1, a2, a3, a4, a5⟩ := place_ok (b := b) (p := p) (n := n) (by omega) (by omega) (by omega) (by omega) h0 h1
    have en : geom_Number.f b p y s t (n / p) (n % p) = some n := by rw [number_f _ _ _ _ _ _ _ h, if_pos ⟨a1, a2, a3, a4⟩, a5]
    have nn : geom_Next.f b p y s t (n / p) (n % p) = some (0, 0, false) := by rw [next_f _ _ _ _ _ _ _ h, a5, if_neg (fun h' => h'.2 (by omega))]
    simp only [jotterlaw5_GeomWalks.l0, jotterlaw5_GeomWalks.j1]
    rw [if_pos (by omega), en, Option.bind_some, if_pos rfl, if_neg (by omega), decide_eq_false (by omega), if_neg (by decide), nn, Option.bind_some, if_neg (by decide), wid (b * p) (by omega), wid (b * p - 1) (by omega), if_pos (by omega), awake_f]
    rfl
  | succ d ih =>
    intro k n h0 h1 hd hk
    obtain ⟨k, rfl⟩ : ∃ m, k = m + 2 := ⟨k - 2, by omega⟩
    obtain ⟨a1, a2, a3, a4, a5⟩ := place_ok (b := b) (p := p) (n := n) (by omega) (by omega) (by omega) (by omega) h0 h1
    have en : geom_Number.f b p y s t (n / p) (n % p) = some n := by rw [number_f _ _ _ _ _ _ _ h, if_pos ⟨a1, a2, a3, a4⟩, a5]
    have nn : geom_Next.f b p y s t (n / p) (n % p) = some ((n + 1) / p, (n + 1) % p, true) := by rw [next_f _ _ _ _ _ _ _ h, a5, if_pos ⟨⟨a1, a2, a3, a4⟩, by omega⟩]
    simp only [jotterlaw5_GeomWalks.l0, jotterlaw5_GeomWalks.j1]
    rw [if_pos (by omega), en, Option.bind_some, if_pos rfl, if_neg (by omega), decide_eq_false (by omega), if_neg (by decide), nn, Option.bind_some, if_pos rfl, wid (n + 1) (by omega)]
    exact ih k (n + 1) (by omega) (by omega) (by omega) (by omega)

theorem pure (b p y s t : Int) : ∃ k, jotterlaw5_GeomWalks.f k b p y s t = some true := by
  refine ⟨1000, ?_⟩
  unfold jotterlaw5_GeomWalks.f
  rw [may_f, Option.bind_some]
  by_cases h : mayP b p y s t
  · have g := h
    unfold mayP at g
    have r3 : 32 ≤ b * p ∧ b * p ≤ 160 := by rcases p_cases (show 4 ≤ p by omega) (by omega) with e | e | e | e | e <;> rw [e] <;> omega
    rw [decide_eq_true h, if_pos rfl]
    have := loop_f b p y s t h (b * p - 1).toNat 1000 0 (by omega) (by omega) (by omega) (by omega)
    rw [Int.zero_ediv, Int.zero_emod] at this
    exact this
  · have e := may_f b p y s t
    rw [decide_eq_false h] at e
    have l : geom_Logical.f b p y s t = some 0 := by unfold geom_Logical.f; rw [e]; rfl
    rw [decide_eq_false h, if_neg (by decide), next_no _ _ _ _ _ _ _ h, Option.bind_some, if_neg (by decide), l, awake_f]
    rfl
end Go.Proofs.Ytmpbedjbimimoaa.PGeomWalks
