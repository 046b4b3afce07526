/-
  What PointLens asks of rounded roots, products and sums, over rational numbers. Plain laws. No condition.
-/
import Derived.Test.YtlffbdfkanibcaaSq
namespace Go.Proofs.Ytlffbdfkanibcaa.Fr
open Ieee Fl
set_option linter.unusedSimpArgs false
set_option linter.unusedVariables false

theorem eq_val {x y : Nat} {u : Rat} (hx : Val x u) (hy : Val y u) : double.order x y = some .eq := by
  obtain ⟨a, b, g, hg, h1, h2, e⟩ := order_val hx hy
  have : (a : Rat) * g = b * g := by rw [← h1, ← h2]
  have : (a : Rat) = b := by
    have hne : g ≠ 0 := by grind
    grind
  have : a = b := Rat.intCast_inj.1 this
  subst this
  rw [e]; simp [compare, compareOfLessAndEq]
theorem le_val {x y : Nat} {u v : Rat} (hx : Val x u) (hy : Val y v) (h : u ≤ v) : (double.order x y == some .lt || double.order x y == some .eq) = true := by
  by_cases c : u = v
  · subst c; rw [eq_val hx hy]; rfl
  · rw [lt_val hx hy (by grind)]; rfl
theorem ge_val {x y : Nat} {u v : Rat} (hx : Val x u) (hy : Val y v) (h : v ≤ u) : (double.order x y == some .gt || double.order x y == some .eq) = true := by
  by_cases c : u = v
  · subst c; rw [eq_val hx hy]; rfl
  · rw [gt_val hx hy (by grind)]; rfl

theorem read_flip (x : Nat) (s : Bool) (m : Nat) (p : Int) (h : double.read x = .number s m p) : double.read (x % 2 ^ 63) = .number false m p := by
  have hm : x % 2 ^ 63 % 2 ^ 63 = x % 2 ^ 63 := Nat.mod_mod _ _
  have hd : (x % 2 ^ 63 / 2 ^ 63 % 2 == 1) = false := by
    have : x % 2 ^ 63 < 2 ^ 63 := Nat.mod_lt _ (by decide)
    rw [Nat.div_eq_of_lt this]; rfl
  unfold Format.read at h ⊢
  simp only [sign_d, hm, hd] at h ⊢
  generalize x % 2 ^ 63 = r at *
  split at h
  · rename_i c
    rw [if_pos c]
    injection h with h1 h2 h3
    rw [h2, h3]
  · rename_i c
    rw [if_neg c]
    split at h
    · rename_i c2
      rw [if_pos c2]
      injection h with h1 h2 h3
      rw [h2, h3]
    · split at h <;> cases h

theorem abs_val {x : Nat} {u : Rat} (hx : Val x u) : Val (x % 2 ^ 63) u.abs := by
  obtain ⟨s, m, i, r1, b1, rfl⟩ := hx.out
  rw [abs_vl]
  exact ⟨_, _, _, read_flip x s m i r1, b1, rfl⟩

theorem sqrt_all {x : Nat} {u : Rat} (hx : Val x u) (h1 : u = 0 ∨ tw (-500) ≤ u) (h2 : u ≤ tw 500) :
    ∃ z w, double.sqrt x = some z ∧ Val z w ∧ 0 ≤ w ∧ (w * w - u).abs ≤ u * tw (-50) := by
  rcases h1 with h | h
  · subst h
    obtain ⟨s, m, i, r1, b1, hv⟩ := hx.out
    have hm : m = 0 := by
      rcases Nat.eq_zero_or_pos m with c | c
      · exact c
      · exfalso
        have h1 := vl_low m i c
        have h3 := tw_pos (i + m.log2)
        have h4 := abs_vl s m i
        rw [← hv, Rat.abs_zero] at h4
        rw [← h4] at h1
        exact absurd (lt_le h3 h1) (by grind)
    subst hm
    have hroot : double.sqrt x = some (double.write (.number s 0 i)) := by
      unfold Format.sqrt
      rw [r1]; rfl
    obtain ⟨w, hw, he⟩ := round_val s 0 i (.inl rfl)
    refine ⟨_, 0, hroot, ?_, by grind, ?_⟩
    · have e1 : vl s 0 i = 0 := by unfold vl; cases s <;> simp <;> grind
      have e2 : vl false 0 i = 0 := by unfold vl; simp
      rw [e1, e2] at he
      have a := le_abs (w - 0)
      have : w = 0 := by grind
      rw [← this]; exact hw
    · rw [show (0 : Rat) * 0 - 0 = 0 by grind, Rat.abs_zero]; grind
  · exact sqrt_val hx h h2

theorem le_of_sq {x y : Rat} (hx : 0 ≤ x) (hy : 0 ≤ y) (h : x * x ≤ y * y) : x ≤ y := by
  rcases (Rat.le_total : x ≤ y ∨ y ≤ x) with c | c
  · exact c
  · by_cases e : x = y
    · grind
    · have h1 : 0 < x - y := by grind
      have h2 : 0 < x + y := by grind
      have := Rat.mul_pos h1 h2
      grind

/-- The square of a rounded root, against the number. -/
theorem near_square (N U Q D E c ε δ : Rat) (hN : 0 ≤ N) (hε0 : 0 < ε) (hδ : δ = 8 * ε) (hε : ε * 1048576 ≤ c) (hc : c ≤ 1) (hU : 0 ≤ U) (h1 : (U * U - N).abs ≤ N * δ) (h2 : (Q - U * U).abs ≤ (U * U).abs * ε)
    (h3 : (D - (Q - N)).abs ≤ (Q - N).abs * ε) (h4 : (E - c * N).abs ≤ (c * N).abs * ε) : D.abs ≤ E := by
  have hUU := Rat.mul_nonneg hU hU
  rw [Rat.abs_of_nonneg hUU] at h2
  have hc0 : 0 ≤ c := by grind
  rw [Rat.abs_of_nonneg (Rat.mul_nonneg hc0 hN)] at h4
  have hε1 : ε * 1048576 ≤ 1 := by grind
  have a1 := le_abs (U * U - N)
  have a2 := le_abs (Q - U * U)
  have a3 := le_abs (D - (Q - N))
  have a4 := le_abs (E - c * N)
  generalize (U * U - N).abs = A1 at *
  generalize (Q - U * U).abs = A2 at *
  generalize (D - (Q - N)).abs = A3 at *
  generalize (E - c * N).abs = A4 at *
  subst hδ
  have hNe : 0 ≤ N * ε := Rat.mul_nonneg hN (Rat.le_of_lt hε0)
  have hNee : N * ε * ε ≤ N * ε := by
    have := Rat.mul_nonneg hNe (show 0 ≤ 1 - ε by grind)
    grind
  have b1 : U * U * ε ≤ N * ε + 8 * (N * ε) := by
    have := Rat.mul_nonneg (show 0 ≤ N + N * (8 * ε) - U * U by grind) (Rat.le_of_lt hε0)
    grind
  have b2 : (Q - N).abs ≤ 17 * (N * ε) := abs_le (by grind) (by grind)
  have b3 : (Q - N).abs * ε ≤ 17 * (N * ε) := by
    have := Rat.mul_le_mul_of_nonneg_right b2 (Rat.le_of_lt hε0)
    grind
  have a5 := le_abs (Q - N)
  generalize (Q - N).abs = A5 at *
  have b4 : D.abs ≤ 34 * (N * ε) := abs_le (by grind) (by grind)
  have b5 : N * ε * 1048576 ≤ c * N := by
    have := Rat.mul_nonneg (show 0 ≤ c - ε * 1048576 by grind) hN
    grind
  have b6 : c * N * ε ≤ N * ε := by
    have := Rat.mul_nonneg hNe (show 0 ≤ 1 - c by grind)
    grind
  grind

/-- A length many times as long. -/
theorem near_times (N U V P D S E c ε δ n : Rat) (hN : 0 ≤ N) (hn : 0 ≤ n) (hε0 : 0 < ε) (hδ : δ = 8 * ε) (hε : ε * 1048576 ≤ c) (hc : c ≤ 1) (hU : 0 ≤ U) (hV : 0 ≤ V) (h1 : (U * U - N).abs ≤ N * δ) (h2 : (V * V - n * n * N).abs ≤ n * n * N * δ)
    (h3 : (P - U * n).abs ≤ (U * n).abs * ε) (h4 : (D - (V - P)).abs ≤ (V - P).abs * ε) (h5 : (S - (V + 1)).abs ≤ (V + 1).abs * ε) (h6 : (E - c * S).abs ≤ (c * S).abs * ε) : D.abs ≤ E := by
  have hUn := Rat.mul_nonneg hU hn
  have hc0 : 0 ≤ c := by grind
  have hε1 : ε * 1048576 ≤ 1 := by grind
  rw [Rat.abs_of_nonneg hUn] at h3
  rw [Rat.abs_of_nonneg (show 0 ≤ V + 1 by grind)] at h5
  have a1 := le_abs (U * U - N)
  have a2 := le_abs (V * V - n * n * N)
  have a3 := le_abs (P - U * n)
  have a4 := le_abs (D - (V - P))
  have a5 := le_abs (S - (V + 1))
  have a6 := le_abs (E - c * S)
  have hM : 0 ≤ n * n * N := Rat.mul_nonneg (Rat.mul_nonneg hn hn) hN
  have hnn : 0 ≤ n * n := Rat.mul_nonneg hn hn
  subst hδ
  have hMe : 0 ≤ n * n * N * ε := Rat.mul_nonneg hM (Rat.le_of_lt hε0)
  -- the squares of V and of n U
  have k1 : V * V - (U * n) * (U * n) ≤ 16 * (n * n * N * ε) := by
    have := Rat.mul_nonneg hnn (show 0 ≤ N * (8 * ε) + (U * U - N) by grind)
    grind
  have k2 : -(16 * (n * n * N * ε)) ≤ V * V - (U * n) * (U * n) := by
    have := Rat.mul_nonneg hnn (show 0 ≤ N * (8 * ε) - (U * U - N) by grind)
    grind
  have k3 : n * n * N * ε ≤ 2 * (V * V * ε) := by
    have e1 : 0 ≤ (V * V - n * n * N + n * n * N * (8 * ε)) * ε := Rat.mul_nonneg (by grind) (Rat.le_of_lt hε0)
    have e2 : 0 ≤ n * n * N * ε * (1 - 16 * ε) := Rat.mul_nonneg hMe (by grind)
    grind
  have hVe : 0 ≤ V * ε := Rat.mul_nonneg hV (Rat.le_of_lt hε0)
  have k4 : (V - U * n).abs ≤ 32 * (V * ε) := by
    by_cases v0 : V = 0
    · subst v0
      have e1 : n * n * N * ε ≤ 0 := by grind
      have e2 : (U * n) * (U * n) ≤ 0 * 0 := by grind
      have := le_of_sq hUn (by grind) e2
      exact abs_le (by grind) (by grind)
    · have hV1 : 0 < V := by grind
      have m1 : V * (V - U * n - 32 * (V * ε)) ≤ 0 ∨ V - U * n ≤ 0 := by
        rcases (Rat.le_total : V - U * n ≤ 0 ∨ 0 ≤ V - U * n) with c | c
        · exact .inr c
        · left
          have := Rat.mul_nonneg c hUn
          grind
      have m2 : V * (U * n - V - 32 * (V * ε)) ≤ 0 ∨ U * n - V ≤ 0 := by
        rcases (Rat.le_total : U * n - V ≤ 0 ∨ 0 ≤ U * n - V) with c | c
        · exact .inr c
        · left
          have := Rat.mul_nonneg c hUn
          grind
      have cancel : ∀ z : Rat, V * z ≤ 0 → z ≤ 0 := by
        intro z hz
        rcases (Rat.le_total : z ≤ 0 ∨ 0 ≤ z) with c | c
        · exact c
        · by_cases e : z = 0
          · grind
          · have := Rat.mul_pos hV1 (show 0 < z by grind)
            grind
      refine abs_le ?_ ?_
      · rcases m2 with m | m
        · have := cancel _ m; grind
        · grind
      · rcases m1 with m | m
        · have := cancel _ m; grind
        · grind
  have a7 := le_abs (V - U * n)
  have k5 : U * n * ε ≤ 2 * (V * ε) := by
    have e1 : 0 ≤ (V + 32 * (V * ε) - U * n) * ε := Rat.mul_nonneg (by grind) (Rat.le_of_lt hε0)
    have e2 : 0 ≤ V * ε * (1 - 32 * ε) := Rat.mul_nonneg hVe (by grind)
    grind
  have k6 : (V - P).abs ≤ 34 * (V * ε) := abs_le (by grind) (by grind)
  have k7 : (V - P).abs * ε ≤ V * ε := by
    have e1 := Rat.mul_le_mul_of_nonneg_right k6 (Rat.le_of_lt hε0)
    have e2 : 0 ≤ V * ε * (1 - 34 * ε) := Rat.mul_nonneg hVe (by grind)
    grind
  have a8 := le_abs (V - P)
  have k8 : D.abs ≤ 35 * (V * ε) := abs_le (by grind) (by grind)
  -- what stands against it
  have s0 : (V + 1) * (1 / 2) ≤ S := by
    have : 0 ≤ (V + 1) * (1 / 2 - ε) := Rat.mul_nonneg (by grind) (by grind)
    grind
  have s1 : 0 ≤ c * S := Rat.mul_nonneg hc0 (by grind)
  rw [Rat.abs_of_nonneg s1] at h6
  have s2 : c * S * (1 / 2) ≤ E := by
    have : 0 ≤ c * S * (1 / 2 - ε) := Rat.mul_nonneg s1 (by grind)
    grind
  have s3 : c * ((V + 1) * (1 / 2)) ≤ c * S := Rat.mul_le_mul_of_nonneg_left s0 hc0
  have s4 : V * ε * 1048576 ≤ c * (V + 1) := by
    have : 0 ≤ (c - ε * 1048576) * V := Rat.mul_nonneg (by grind) hV
    grind
  grind

/-- Round by another point. -/
theorem near_round (N N1 N2 X U A B S T c ε δ : Rat) (hN : N = N1 + N2 + 2 * X) (hX : X * X ≤ N1 * N2) (h10 : 0 ≤ N1) (h20 : 0 ≤ N2) (hN0 : 0 ≤ N) (hε0 : 0 < ε) (hδ : δ = 8 * ε) (hc0 : 0 ≤ c) (hc : c ≤ 1 - 8192 * ε) (hcε : ε * 1048576 ≤ 1) (hU : 0 ≤ U) (hA : 0 ≤ A) (hB : 0 ≤ B)
    (h1 : (U * U - N).abs ≤ N * δ) (h2 : (A * A - N1).abs ≤ N1 * δ) (h3 : (B * B - N2).abs ≤ N2 * δ) (h4 : (S - (A + B)).abs ≤ (A + B).abs * ε) (h5 : (T - U * c).abs ≤ (U * c).abs * ε) : T ≤ S := by
  subst hδ
  have a1 := le_abs (U * U - N)
  have a2 := le_abs (A * A - N1)
  have a3 := le_abs (B * B - N2)
  have a4 := le_abs (S - (A + B))
  have a5 := le_abs (T - U * c)
  rw [Rat.abs_of_nonneg (show 0 ≤ A + B by grind)] at h4
  rw [Rat.abs_of_nonneg (Rat.mul_nonneg hU hc0)] at h5
  have hAA := Rat.mul_nonneg hA hA
  have hBB := Rat.mul_nonneg hB hB
  have hAB := Rat.mul_nonneg hA hB
  -- N1 is at most A A (1 + 16 e), N2 likewise
  have n1 : N1 ≤ A * A * (1 + 16 * ε) := by
    have e1 : 0 ≤ N1 * ε * (8 - 128 * ε) := Rat.mul_nonneg (Rat.mul_nonneg h10 (Rat.le_of_lt hε0)) (by grind)
    have e2 : 0 ≤ (A * A - N1 + N1 * (8 * ε)) * (1 + 16 * ε) := Rat.mul_nonneg (by grind) (by grind)
    grind
  have n2 : N2 ≤ B * B * (1 + 16 * ε) := by
    have e1 : 0 ≤ N2 * ε * (8 - 128 * ε) := Rat.mul_nonneg (Rat.mul_nonneg h20 (Rat.le_of_lt hε0)) (by grind)
    have e2 : 0 ≤ (B * B - N2 + N2 * (8 * ε)) * (1 + 16 * ε) := Rat.mul_nonneg (by grind) (by grind)
    grind
  have hk : 0 ≤ 1 + 16 * ε := by grind
  have x1 : X ≤ A * B * (1 + 16 * ε) := by
    rcases (Rat.le_total : X ≤ 0 ∨ 0 ≤ X) with c | c
    · have := Rat.mul_nonneg hAB hk; grind
    · refine le_of_sq c (Rat.mul_nonneg hAB hk) ?_
      have e1 := mul_mono h10 n1 h20 n2
      have e2 : A * A * (1 + 16 * ε) * (B * B * (1 + 16 * ε)) = A * B * (1 + 16 * ε) * (A * B * (1 + 16 * ε)) := by grind
      rw [e2] at e1
      exact Rat.le_trans hX e1
  have nn : N ≤ (A + B) * (A + B) * (1 + 16 * ε) := by grind
  have uu : U ≤ (A + B) * (1 + 16 * ε) := by
    refine le_of_sq hU (Rat.mul_nonneg (by grind) hk) ?_
    have e1 : U * U ≤ N * (1 + 8 * ε) := by grind
    have e2 := Rat.mul_le_mul_of_nonneg_right nn (show 0 ≤ 1 + 8 * ε by grind)
    have e3 : 0 ≤ (A + B) * (A + B) * (1 + 16 * ε) * (8 * ε) := Rat.mul_nonneg (Rat.mul_nonneg (Rat.mul_nonneg (by grind) (by grind)) hk) (by grind)
    grind
  have t1 : T ≤ U * c * (1 + ε) := by grind
  have t2 : U * c * (1 + ε) ≤ U * (1 - 8192 * ε) * (1 + ε) := by
    have e1 := Rat.mul_le_mul_of_nonneg_left hc hU
    exact Rat.mul_le_mul_of_nonneg_right e1 (by grind)
  have t3 : U * (1 - 8192 * ε) * (1 + ε) ≤ U * (1 - 8190 * ε) := by
    have : 0 ≤ U * ε := Rat.mul_nonneg hU (Rat.le_of_lt hε0)
    have : 0 ≤ U * ε * ε := Rat.mul_nonneg this (Rat.le_of_lt hε0)
    grind
  have hAB2 : 0 ≤ A + B := by grind
  have t4 : U * (1 - 8190 * ε) ≤ (A + B) * (1 + 16 * ε) * (1 - 8190 * ε) := Rat.mul_le_mul_of_nonneg_right uu (by grind)
  have t5 : (A + B) * (1 + 16 * ε) * (1 - 8190 * ε) ≤ (A + B) * (1 - ε) := by
    have e0 : 0 ≤ (A + B) * ε := Rat.mul_nonneg hAB2 (Rat.le_of_lt hε0)
    have e1 : 0 ≤ (A + B) * ε * ε := Rat.mul_nonneg e0 (Rat.le_of_lt hε0)
    grind
  grind

end Go.Proofs.Ytlffbdfkanibcaa.Fr
