/-
  What PointLens reckons is there, and stands as it should. Plain laws. No condition.
-/
import Derived.Test.YtlffbdfkanibcaaLn
namespace Go.Proofs.Ytlffbdfkanibcaa.Fr
open Ieee Fl
set_option linter.unusedSimpArgs false
set_option linter.unusedVariables false

theorem nano_read : double.read 4472406533629990549 = .number false 4835703278458517 (-82) := by decide +kernel
theorem near1_read : double.read 4607182418800008401 = .number false 9007199254731985 (-53) := by decide +kernel
theorem one_read : double.read 4607182418800017408 = .number false 4503599627370496 (-52) := by decide +kernel

def nano : Rat := vl false 4835703278458517 (-82)
def near1 : Rat := vl false 9007199254731985 (-53)
theorem nano_val : Val 4472406533629990549 nano := ⟨_, _, _, nano_read, by decide, rfl⟩
theorem near1_val : Val 4607182418800008401 near1 := ⟨_, _, _, near1_read, by decide, rfl⟩
theorem one_val : Val 4607182418800017408 1 := by
  refine ⟨_, _, _, one_read, by decide, ?_⟩
  have e : (4503599627370496 : Nat) = 2 ^ 52 := by decide
  rw [vl_false, e, ← tw_nat, ← tw_add]
  exact tw_zero.symm
theorem nano_low : eps * 1048576 ≤ nano := by
  have h1 := vl_low 4835703278458517 (-82) (by decide)
  have h : (4835703278458517 : Nat).log2 = 52 := by decide +kernel
  rw [h] at h1
  have e : (1048576 : Rat) = tw ((20 : Nat) : Int) := by rw [tw_nat]; decide +kernel
  unfold eps nano
  rw [e, ← tw_add]
  exact Rat.le_trans (tw_mono (by decide)) h1
theorem nano_le : nano ≤ 1 := by
  have h1 := vl_high 4835703278458517 (-82)
  have h : (4835703278458517 : Nat).log2 = 52 := by decide +kernel
  rw [h] at h1
  have h2 : tw (-82 + ((52 : Nat) : Int) + 1) ≤ tw 0 := tw_mono (by decide)
  rw [tw_zero] at h2
  exact Rat.le_trans (Rat.le_of_lt h1) h2
theorem near1_le : near1 ≤ 1 - 8192 * eps := by
  unfold near1 eps
  rw [vl_false]
  have e1 : ((9007199254731985 : Nat) : Rat) + 8192 ≤ ((2 ^ 53 : Nat) : Rat) := by decide +kernel
  have e2 : tw ((53 : Nat) : Int) * tw (-53) = 1 := by rw [← tw_add]; exact tw_zero
  rw [tw_nat] at e2
  have := Rat.mul_le_mul_of_nonneg_right e1 (Rat.le_of_lt (tw_pos (-53)))
  grind
theorem near1_low : 1 / 2 ≤ near1 := by
  have h1 := vl_low 9007199254731985 (-53) (by decide)
  have h : (9007199254731985 : Nat).log2 = 52 := by decide +kernel
  rw [h] at h1
  have h2 : tw (-1) ≤ tw (-53 + ((52 : Nat) : Int)) := tw_mono (by decide)
  have h3 : tw (-1) * 2 = 1 := by rw [← tw_one, ← tw_add]; exact tw_zero
  have h4 : near1 = vl false 9007199254731985 (-53) := rfl
  grind

theorem eps_small : eps * 1048576 ≤ 1 := Rat.le_trans nano_low nano_le
theorem d50 : tw (-50) = 8 * eps := by
  have : (8 : Rat) = tw ((3 : Nat) : Int) := by rw [tw_nat]; rfl
  unfold eps
  rw [this, ← tw_add]; congr 1

/-- A rounded root of a whole number. -/
theorem root_of (N : Int) (h0 : 0 ≤ N) (h1 : N ≤ 2 ^ 34) : ∃ z w, double.sqrt (I N) = some z ∧ Val z w ∧ 0 ≤ w ∧ (w * w - (N : Rat)).abs ≤ (N : Rat) * (8 * eps) ∧ (N = 0 → w = 0) ∧ (N ≠ 0 → 1 / 2 ≤ w) ∧ w ≤ tw 20 := by
  have hN0 : (0 : Rat) ≤ (N : Rat) := Rat.intCast_nonneg.2 h0
  have hN34 : (N : Rat) ≤ tw 34 := by
    have e : tw ((34 : Nat) : Int) = ((2 ^ 34 : Nat) : Rat) := tw_nat 34
    have e2 : tw (34 : Int) = ((17179869184 : Int) : Rat) := e
    rw [e2]
    exact Rat.intCast_le_intCast.2 (by omega)
  have hor : (N : Rat) = 0 ∨ tw (-500) ≤ (N : Rat) := by
    by_cases c : N = 0
    · subst c; exact .inl rfl
    · right
      have h1 : ((1 : Int) : Rat) ≤ (N : Rat) := Rat.intCast_le_intCast.2 (by omega)
      have h2 : tw (-500) ≤ tw 0 := tw_mono (by decide)
      rw [tw_zero] at h2
      exact Rat.le_trans h2 h1
  obtain ⟨z, w, hz, hw, hw0, hc⟩ := sqrt_all (I_val N (by omega)) hor (Rat.le_trans hN34 (tw_mono (by decide)))
  rw [d50] at hc
  have a := le_abs (w * w - (N : Rat))
  have hE := eps_pos
  have hE8 := eps_le
  have hEs := eps_small
  have p : 0 ≤ (N : Rat) * (1 / 8 - eps * 8) := Rat.mul_nonneg hN0 (by grind)
  have hup : w * w ≤ 2 * (N : Rat) := by grind
  refine ⟨z, w, hz, hw, hw0, hc, ?_, ?_, ?_⟩
  · rintro rfl
    have : w * w ≤ 0 * 0 := by
      have e : (((0 : Int)) : Rat) = 0 := rfl
      rw [e] at hup
      grind
    have := le_of_sq hw0 (by grind) this
    grind
  · intro hn
    have h1 : ((1 : Int) : Rat) ≤ (N : Rat) := Rat.intCast_le_intCast.2 (by omega)
    have h2 : ((1 : Int) : Rat) = 1 := rfl
    rw [h2] at h1
    refine le_of_sq (by grind) hw0 ?_
    grind
  · refine le_of_sq hw0 (Rat.le_of_lt (tw_pos 20)) ?_
    have e : tw 20 * tw 20 = tw 6 * tw 34 := by rw [← tw_add, ← tw_add]; congr 1
    rw [e]
    have e6 : tw ((6 : Nat) : Int) = ((2 ^ 6 : Nat) : Rat) := tw_nat 6
    have e7 : tw 6 = 64 := e6
    rw [e7]
    grind

theorem t1000 : tw (-1000) ≤ nano * (1 / 2) := by
  have h1 := vl_low 4835703278458517 (-82) (by decide)
  have h : (4835703278458517 : Nat).log2 = 52 := by decide +kernel
  rw [h] at h1
  have h2 : tw (-1000) * 2 ≤ nano := by
    rw [← tw_one, ← tw_add]
    exact Rat.le_trans (tw_mono (by decide)) h1
  grind
theorem t800 : 1125899906842624 * 1125899906842624 ≤ tw 800 := by
  have e : (1125899906842624 : Rat) = tw ((50 : Nat) : Int) := by rw [tw_nat]; decide +kernel
  rw [e, ← tw_add]
  exact tw_mono (by decide)
theorem t20 : tw 20 = 1048576 := by
  have : tw ((20 : Nat) : Int) = ((2 ^ 20 : Nat) : Rat) := tw_nat 20
  have e : ((2 ^ 20 : Nat) : Rat) = 1048576 := by decide +kernel
  rw [← e]; exact this

theorem lens_fact (N N1 N2 X n : Int) (hN : N = N1 + N2 + 2 * X) (hX : X * X ≤ N1 * N2) (h0 : 0 ≤ N) (h1 : N ≤ 8000000) (h10 : 0 ≤ N1) (h11 : N1 ≤ 8000000) (h20 : 0 ≤ N2) (h21 : N2 ≤ 8000000) (hn : 1 ≤ n) (hn2 : n ≤ 30) :
    ∃ u v q d e P D S E a b s t, double.sqrt (I N) = some u ∧ double.sqrt (I (n * n * N)) = some v ∧ double.sqrt (I N1) = some a ∧ double.sqrt (I N2) = some b ∧
      double.mul u u = some q ∧ double.sub q (I N) = some d ∧ double.mul 4472406533629990549 (I N) = some e ∧ (double.order (d % 2 ^ 63) e == some .lt || double.order (d % 2 ^ 63) e == some .eq) = true ∧
      double.mul u (I n) = some P ∧ double.sub v P = some D ∧ double.add v 4607182418800017408 = some S ∧ double.mul 4472406533629990549 S = some E ∧ (double.order (D % 2 ^ 63) E == some .lt || double.order (D % 2 ^ 63) E == some .eq) = true ∧
      double.add a b = some s ∧ double.mul u 4607182418800008401 = some t ∧ (double.order s t == some .gt || double.order s t == some .eq) = true ∧
      double.order u u = some .eq ∧ (N = 0 → double.order u 0 = some .eq) ∧ (N ≠ 0 → double.order u 0 = some .gt) := by
  have hM0 : 0 ≤ n * n * N := Int.mul_nonneg (Int.mul_nonneg (by omega) (by omega)) h0
  have hM1 : n * n * N ≤ 900 * 8000000 := by
    have e1 : n * n ≤ 30 * 30 := Int.mul_le_mul hn2 hn2 (by omega) (by omega)
    exact Int.mul_le_mul e1 h1 h0 (by omega)
  obtain ⟨u, U, hu, hU, hU0, cU, zU, oU, tU⟩ := root_of N h0 (by omega)
  obtain ⟨v, V, hv, hV, hV0, cV, zV, oV, tV⟩ := root_of (n * n * N) hM0 (by omega)
  obtain ⟨a, A, ha, hA, hA0, cA, zA, oA, tA⟩ := root_of N1 h10 (by omega)
  obtain ⟨b, B, hb, hB, hB0, cB, zB, oB, tB⟩ := root_of N2 h20 (by omega)
  rw [t20] at tU tV tA tB
  have hE := eps_pos
  have hEs := eps_small
  have hnl := nano_low
  have hnh := nano_le
  have g1000 := t1000
  have g800 := t800
  have r1 := near1_le
  have r2 := near1_low
  have hN0r : (0 : Rat) ≤ (N : Rat) := Rat.intCast_nonneg.2 h0
  have hn0r : (1 : Rat) ≤ (n : Rat) := by
    have : ((1 : Int) : Rat) ≤ (n : Rat) := Rat.intCast_le_intCast.2 hn
    exact this
  have hn30 : (n : Rat) ≤ 30 := by
    have : (n : Rat) ≤ ((30 : Int) : Rat) := Rat.intCast_le_intCast.2 hn2
    exact this
  have hN8 : (N : Rat) ≤ 8000000 := by
    have : (N : Rat) ≤ ((8000000 : Int) : Rat) := Rat.intCast_le_intCast.2 h1
    exact this
  have hMr : ((n * n * N : Int) : Rat) = (n : Rat) * n * N := by rw [Rat.intCast_mul, Rat.intCast_mul]
  rw [hMr] at cV
  have hNr : (N : Rat) = N1 + N2 + 2 * X := by rw [hN, Rat.intCast_add, Rat.intCast_add, Rat.intCast_mul]; rfl
  have hXr : (X : Rat) * X ≤ N1 * N2 := by
    have := Rat.intCast_le_intCast.2 hX
    rwa [Rat.intCast_mul, Rat.intCast_mul] at this
  have hN1r : (0 : Rat) ≤ (N1 : Rat) := Rat.intCast_nonneg.2 h10
  have hN2r : (0 : Rat) ≤ (N2 : Rat) := Rat.intCast_nonneg.2 h20
  have iN := I_val N (by omega)
  have in_ := I_val n (by omega)
  -- the bounds of a product
  have small : ∀ x y : Rat, 0 ≤ x → 0 ≤ y → x ≤ 1125899906842624 → y ≤ 1125899906842624 → (x * y).abs ≤ tw 800 := by
    intro x y hx hy hx2 hy2
    rw [Rat.abs_of_nonneg (Rat.mul_nonneg hx hy)]
    exact Rat.le_trans (mul_mono hx hx2 hy hy2) g800
  have great : ∀ x y c : Rat, 0 ≤ x → 0 ≤ y → (x * y = 0 ∨ nano * (1 / 2) ≤ x * y) → x * y = 0 ∨ tw (-1000) ≤ (x * y).abs := by
    intro x y c hx hy h
    rw [Rat.abs_of_nonneg (Rat.mul_nonneg hx hy)]
    rcases h with h | h
    · exact .inl h
    · exact .inr (Rat.le_trans g1000 h)
  have hnano0 : 0 ≤ nano := by grind
  have zeroOr : U = 0 ∨ 1 / 2 ≤ U := by
    by_cases c : N = 0
    · exact .inl (zU c)
    · exact .inr (oU c)
  have low : ∀ y : Rat, nano ≤ y → U * y = 0 ∨ nano * (1 / 2) ≤ U * y := by
    intro y hy
    rcases zeroOr with c | c
    · left; rw [c]; grind
    · right
      have := mul_mono (show (0 : Rat) ≤ 1 / 2 by grind) c hnano0 hy
      grind
  have uu : U * U = 0 ∨ nano * (1 / 2) ≤ U * U := by
    rcases zeroOr with c | c
    · left; rw [c]; grind
    · right
      have := mul_mono (show (0 : Rat) ≤ 1 / 2 by grind) c (show (0 : Rat) ≤ 1 / 2 by grind) c
      by_cases hh : nano ≤ 1 / 2
      · grind
      · have h3 : nano * (1 / 2) ≤ U * U := by
          have : nano * 4 ≤ 1 := by
            have e1 := vl_high 4835703278458517 (-82)
            have e : (4835703278458517 : Nat).log2 = 52 := by decide +kernel
            rw [e] at e1
            have e2 : tw (-82 + ((52 : Nat) : Int) + 1) ≤ tw (-2) := tw_mono (by decide)
            have e3 : tw (-2) * 4 = 1 := by
              have : (4 : Rat) = tw ((2 : Nat) : Int) := by rw [tw_nat]; rfl
              rw [this, ← tw_add]; exact tw_zero
            have e4 : nano = vl false 4835703278458517 (-82) := rfl
            rw [e4]
            grind
          grind
        exact h3
  obtain ⟨q, Q, hq, hQ, cQ⟩ := mul_val hU hU (great U U 0 hU0 hU0 uu) (small U U hU0 hU0 (by grind) (by grind))
  have hQb : (Q - (N : Rat)).abs ≤ tw 800 := by
    have a1 := le_abs (U * U - (N : Rat))
    have a2 := le_abs (Q - U * U)
    have hUU := Rat.mul_nonneg hU0 hU0
    rw [Rat.abs_of_nonneg hUU] at cQ
    have e1 := mul_mono hU0 tU hU0 tU
    have e2 : 0 ≤ U * U * (1 - eps) := Rat.mul_nonneg hUU (by grind)
    exact abs_le (by grind) (by grind)
  obtain ⟨d, Dv, hd, hD, cD⟩ := sub_val hQ iN hQb
  have cn : nano * (N : Rat) = 0 ∨ nano * (1 / 2) ≤ nano * (N : Rat) := by
    by_cases c : N = 0
    · left; subst c
      have : (((0 : Int)) : Rat) = 0 := rfl
      rw [this]; grind
    · right
      have h1 : ((1 : Int) : Rat) ≤ (N : Rat) := Rat.intCast_le_intCast.2 (by omega)
      have h2 : ((1 : Int) : Rat) = 1 := rfl
      rw [h2] at h1
      exact Rat.mul_le_mul_of_nonneg_left (by grind) hnano0
  obtain ⟨e, Ev, he, hEv, cE⟩ := mul_val nano_val iN (great nano N 0 hnano0 hN0r cn) (small nano N hnano0 hN0r (by grind) (by grind))
  have k1 := near_square N U Q Dv Ev nano eps (8 * eps) hN0r hE rfl hnl hnh hU0 cU cQ cD cE
  -- many times as long
  obtain ⟨P, Pv, hP, hPv, cP⟩ := mul_val hU in_ (great U n 0 hU0 (by grind) (low n (by grind))) (small U n hU0 (by grind) (by grind) (by grind))
  have hUn0 : 0 ≤ U * (n : Rat) := Rat.mul_nonneg hU0 (by grind)
  have hPb : (V - Pv).abs ≤ tw 800 := by
    have a2 := le_abs (Pv - U * (n : Rat))
    rw [Rat.abs_of_nonneg hUn0] at cP
    have e1 := mul_mono hU0 tU (show (0 : Rat) ≤ (n : Rat) by grind) hn30
    have e2 : 0 ≤ U * (n : Rat) * (1 - eps) := Rat.mul_nonneg hUn0 (by grind)
    exact abs_le (by grind) (by grind)
  obtain ⟨D, DD, hDD, hDDv, cDD⟩ := sub_val hV hPv hPb
  obtain ⟨S, Sv, hS, hSv, cS⟩ := add_val hV one_val (by
    rw [Rat.abs_of_nonneg (show 0 ≤ V + 1 by grind)]; grind)
  have hS12 : 1 / 2 ≤ Sv ∧ Sv ≤ 4194304 := by
    have a1 := le_abs (Sv - (V + 1))
    rw [Rat.abs_of_nonneg (show 0 ≤ V + 1 by grind)] at cS
    have e2 : 0 ≤ (V + 1) * (1 / 2 - eps) := Rat.mul_nonneg (by grind) (by grind)
    constructor <;> grind
  obtain ⟨E, EE, hEE, hEEv, cEE⟩ := mul_val nano_val hSv (great nano Sv 0 hnano0 (by grind) (.inr (Rat.mul_le_mul_of_nonneg_left hS12.1 hnano0))) (small nano Sv hnano0 (by grind) (by grind) (by grind))
  have k2 := near_times N U V Pv DD Sv EE nano eps (8 * eps) n hN0r (by grind) hE rfl hnl hnh hU0 hV0 cU cV cP cDD cS cEE
  -- round by another point
  obtain ⟨s, Ss, hs, hSs, cSs⟩ := add_val hA hB (by
    rw [Rat.abs_of_nonneg (show 0 ≤ A + B by grind)]; grind)
  obtain ⟨t, T, ht, hT, cT⟩ := mul_val hU near1_val (great U near1 0 hU0 (by grind) (low near1 (by
    have : nano ≤ 1 / 2 := by
      have e1 := vl_high 4835703278458517 (-82)
      have e : (4835703278458517 : Nat).log2 = 52 := by decide +kernel
      rw [e] at e1
      have e2 : tw (-82 + ((52 : Nat) : Int) + 1) ≤ tw (-1) := tw_mono (by decide)
      have e3 : tw (-1) * 2 = 1 := by rw [← tw_one, ← tw_add]; exact tw_zero
      have e4 : nano = vl false 4835703278458517 (-82) := rfl
      rw [e4]
      grind
    grind))) (small U near1 hU0 (by grind) (by grind) (by grind))
  have k3 := near_round N N1 N2 X U A B Ss T near1 eps (8 * eps) hNr hXr hN1r hN2r hN0r hE rfl (by grind) r1 hEs hU0 hA0 hB0 cU cA cB cSs cT
  have z0 : Val 0 0 := by
    have hz : double.read 0 = .number false 0 (-1074) := by decide +kernel
    refine ⟨_, _, _, hz, by decide, ?_⟩
    unfold vl; simp
  refine ⟨u, v, q, d, e, P, D, S, E, a, b, s, t, hu, hv, ha, hb, hq, hd, he, le_val (abs_val hD) hEv k1, hP, hDD, hS, hEE, le_val (abs_val hDDv) hEEv k2, hs, ht, ge_val hSs hT k3, eq_val hU hU, ?_, ?_⟩
  · intro c
    have := zU c
    rw [this] at hU
    exact eq_val hU z0
  · intro c
    have := oU c
    exact gt_val hU z0 (by grind)

end Go.Proofs.Ytlffbdfkanibcaa.Fr
