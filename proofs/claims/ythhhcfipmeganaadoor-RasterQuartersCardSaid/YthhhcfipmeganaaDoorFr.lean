/-
  What the model's double operations give, within the rounding's bound, over rational numbers. Plain laws. No condition.
-/
import Derived.Test.YthhhcfipmeganaaDoorFm
namespace Go.Proofs.YthhhcfipmeganaaDoor.Fr
open Ieee Fl
set_option linter.unusedSimpArgs false
set_option linter.unusedVariables false

def tw (p : Int) : Rat := (2 : Rat) ^ p
theorem tw_pos (p : Int) : 0 < tw p := Rat.zpow_pos (by decide)
theorem tw_add (p q : Int) : tw (p + q) = tw p * tw q := Rat.zpow_add (by decide) p q
theorem tw_nat (n : Nat) : tw (n : Int) = ((2 ^ n : Nat) : Rat) := by
  unfold tw; rw [Rat.zpow_natCast, Rat.natCast_pow]; rfl
theorem tw_zero : tw 0 = 1 := Rat.zpow_zero _
theorem tw_one : tw 1 = 2 := Rat.zpow_one _
theorem tw_mono {p q : Int} (h : p ≤ q) : tw p ≤ tw q := by
  obtain ⟨n, rfl⟩ : ∃ n : Nat, q = p + n := ⟨(q - p).toNat, by omega⟩
  rw [tw_add, tw_nat]
  have h1 : (1 : Rat) ≤ ((2 ^ n : Nat) : Rat) := by
    have := Nat.one_le_two_pow (n := n)
    have h2 : ((1 : Nat) : Rat) ≤ ((2 ^ n : Nat) : Rat) := Rat.natCast_le_natCast.2 this
    exact h2
  have h0 := tw_pos p
  have := Rat.mul_le_mul_of_nonneg_left h1 (Rat.le_of_lt h0)
  grind
theorem tw_lt {p q : Int} (h : tw p < tw q) : p < q := by
  rcases Int.lt_or_le p q with c | c
  · exact c
  · have := tw_mono c; grind

def vl (s : Bool) (m : Nat) (p : Int) : Rat := (if s then -(m : Rat) else (m : Rat)) * tw p
theorem vl_false (m : Nat) (p : Int) : vl false m p = (m : Rat) * tw p := rfl
theorem vl_true (m : Nat) (p : Int) : vl true m p = -((m : Rat) * tw p) := by unfold vl; grind
theorem vl_nonneg (m : Nat) (p : Int) : 0 ≤ vl false m p := Rat.mul_nonneg (Rat.natCast_nonneg) (Rat.le_of_lt (tw_pos p))

structure Val (x : Nat) (v : Rat) : Prop where
  out : ∃ s m p, double.read x = .number s m p ∧ -1074 ≤ p ∧ v = vl s m p

/-- The word of a rung. -/
theorem rung_val (s : Bool) (E K : Nat) (hE : E ≤ 2000) (hK : K ≤ 2 ^ 53) (h : E = 0 ∨ 2 ^ 52 ≤ K) : Val (double.word s (E * 2 ^ 52 + K)) (vl s K ((E : Int) - 1074)) := by
  have hR : E * 2 ^ 52 + K < 2047 * 2 ^ 52 := by
    have : E * 2 ^ 52 ≤ 2000 * 2 ^ 52 := Nat.mul_le_mul_right _ hE
    omega
  have hmod : double.word s (E * 2 ^ 52 + K) % 2 ^ 63 = E * 2 ^ 52 + K := by
    unfold Format.word; rw [sign_d]; cases s <;> simp <;> omega
  have hdiv : (double.word s (E * 2 ^ 52 + K) / 2 ^ 63 % 2 == 1) = s := by
    unfold Format.word; rw [sign_d]; cases s
    · simp only [Bool.false_eq_true, if_false, beq_eq_false_iff_ne]; omega
    · simp only [if_true, beq_iff_eq]; omega
  have hread : double.read (double.word s (E * 2 ^ 52 + K)) = if E * 2 ^ 52 + K < 2 ^ 52 then .number s (E * 2 ^ 52 + K) (-1074) else .number s (2 ^ 52 + (E * 2 ^ 52 + K) % 2 ^ 52) (-1074 + (((E * 2 ^ 52 + K) / 2 ^ 52 - 1 : Nat) : Int)) := by
    unfold Format.read
    simp only [sign_d, hmod, hdiv, binade_d, infRung_d, leastPlace_d]
    split
    · rfl
    · rfl
  refine ⟨?_⟩
  by_cases c : E * 2 ^ 52 + K < 2 ^ 52
  · rw [if_pos c] at hread
    have hE0 : E = 0 := by omega
    subst hE0
    refine ⟨_, _, _, hread, by omega, ?_⟩
    simp
  · rw [if_neg c] at hread
    refine ⟨_, _, _, hread, by omega, ?_⟩
    by_cases k : K = 2 ^ 53
    · subst k
      have e1 : (E * 2 ^ 52 + 2 ^ 53) % 2 ^ 52 = 0 := by omega
      have e2 : (E * 2 ^ 52 + 2 ^ 53) / 2 ^ 52 = E + 2 := by omega
      rw [e1, e2]
      have e3 : (-1074 : Int) + ((E + 2 - 1 : Nat) : Int) = ((E : Int) - 1074) + 1 := by omega
      rw [e3]
      unfold vl
      rw [tw_add, tw_one]
      have : (((2 : Nat) ^ 53 : Nat) : Rat) = 2 * (((2 ^ 52 + 0 : Nat)) : Rat) := by decide +kernel
      rw [this]
      cases s <;> simp <;> grind
    · by_cases k2 : 2 ^ 52 ≤ K
      · have e1 : (E * 2 ^ 52 + K) % 2 ^ 52 = K - 2 ^ 52 := by omega
        have e2 : (E * 2 ^ 52 + K) / 2 ^ 52 = E + 1 := by omega
        rw [e1, e2]
        have e3 : (-1074 : Int) + ((E + 1 - 1 : Nat) : Int) = (E : Int) - 1074 := by omega
        have e4 : 2 ^ 52 + (K - 2 ^ 52) = K := by omega
        rw [e3, e4]
      · have : E = 0 := by omega
        omega

theorem cut_even (s : Bool) (n d : Nat) : n / 2 ^ d ≤ Toward.even.cut s n d ∧ Toward.even.cut s n d ≤ n / 2 ^ d + 1 ∧
    2 * (Toward.even.cut s n d * 2 ^ d) ≤ 2 * n + 2 ^ d ∧ 2 * n ≤ 2 * (Toward.even.cut s n d * 2 ^ d) + 2 ^ d := by
  have hp : 0 < 2 ^ d := Nat.two_pow_pos d
  by_cases c : d ≤ n.log2 + 2
  · have hm : min d (n.log2 + 2) = d := by omega
    have hdm := Nat.div_add_mod n (2 ^ d)
    have hlt := Nat.mod_lt n hp
    unfold Toward.cut
    simp only [hm, Nat.one_shiftLeft]
    generalize n / 2 ^ d = q at *
    generalize n % 2 ^ d = r at *
    generalize 2 ^ d = g at *
    have hqg : g * q = q * g := Nat.mul_comm _ _
    by_cases h : (decide (g < 2 * r) || (g == 2 * r && q % 2 == 1)) = true
    · rw [h]
      have hg : g ≤ 2 * r := by
        rw [Bool.or_eq_true, decide_eq_true_eq, Bool.and_eq_true, beq_iff_eq] at h
        omega
      have e : (q + true.toNat) * g = q * g + g := by rw [Bool.toNat_true, Nat.add_mul, Nat.one_mul]
      rw [e]
      refine ⟨?_, ?_, by omega, by omega⟩ <;> simp
    · rw [Bool.not_eq_true] at h
      rw [h]
      have hg : 2 * r ≤ g := by
        rw [Bool.or_eq_false_iff, decide_eq_false_iff_not] at h
        omega
      have e : (q + false.toNat) * g = q * g := by rw [Bool.toNat_false, Nat.add_zero]
      rw [e]
      refine ⟨?_, ?_, by omega, by omega⟩ <;> simp
  · have hm : min d (n.log2 + 2) = n.log2 + 2 := by omega
    have hn : n < 2 ^ (n.log2 + 1) := Nat.lt_log2_self
    have h2 : 2 ^ (n.log2 + 2) = 2 * 2 ^ (n.log2 + 1) := by rw [Nat.pow_succ, Nat.mul_comm]
    have h3 : 2 ^ (n.log2 + 2) ≤ 2 ^ d := Nat.pow_le_pow_right (by decide) (by omega)
    have hq : n / 2 ^ (n.log2 + 2) = 0 := Nat.div_eq_of_lt (by omega)
    have hr : n % 2 ^ (n.log2 + 2) = n := Nat.mod_eq_of_lt (by omega)
    have hqd : n / 2 ^ d = 0 := Nat.div_eq_of_lt (by omega)
    have hz : Toward.even.cut s n d = 0 := by
      unfold Toward.cut
      simp only [hm, Nat.one_shiftLeft, hq, hr]
      have : (decide (2 ^ (n.log2 + 2) < 2 * n) || (2 ^ (n.log2 + 2) == 2 * n && 0 % 2 == 1)) = false := by
        have a1 : ¬ (2 ^ (n.log2 + 2) < 2 * n) := by omega
        simp [a1]
      rw [this]; rfl
    rw [hz, hqd]
    refine ⟨by omega, by omega, by omega, by omega⟩

def eps : Rat := tw (-53)

theorem shift_le (m a d L : Nat) (h : L + a = 52 + d) (h1 : 2 ^ L ≤ m) : 2 ^ 52 * 2 ^ d ≤ m * 2 ^ a := by
  calc 2 ^ 52 * 2 ^ d = 2 ^ L * 2 ^ a := by rw [← Nat.pow_add, ← Nat.pow_add, h]
    _ ≤ m * 2 ^ a := Nat.mul_le_mul_right _ h1
theorem shift_lt (m a d L : Nat) (h : L + a ≤ 52 + d) (h1 : m < 2 ^ (L + 1)) : m * 2 ^ a < 2 ^ 53 * 2 ^ d := by
  calc m * 2 ^ a < 2 ^ (L + 1) * 2 ^ a := Nat.mul_lt_mul_of_pos_right h1 (Nat.two_pow_pos a)
    _ = 2 ^ (L + 1 + a) := (Nat.pow_add _ _ _).symm
    _ ≤ 2 ^ (53 + d) := Nat.pow_le_pow_right (by decide) (by omega)
    _ = 2 ^ 53 * 2 ^ d := Nat.pow_add _ _ _

theorem abs_le {a b : Rat} (h1 : -b ≤ a) (h2 : a ≤ b) : a.abs ≤ b := by
  rcases (Rat.le_total : (0 : Rat) ≤ a ∨ a ≤ 0) with h | h
  · rw [Rat.abs_of_nonneg h]; exact h2
  · rw [Rat.abs_of_nonpos h]; grind
theorem le_abs (a : Rat) : a ≤ a.abs ∧ -a ≤ a.abs := by
  rcases (Rat.le_total : (0 : Rat) ≤ a ∨ a ≤ 0) with h | h
  · rw [Rat.abs_of_nonneg h]; grind
  · rw [Rat.abs_of_nonpos h]; grind

theorem min_rung (E K : Nat) (hE : E ≤ 2000) (hK : K ≤ 2 ^ 53) : min (E * 2 ^ 52 + K) (2047 * 2 ^ 52) = E * 2 ^ 52 + K := by
  have hB : (2 : Nat) ^ 53 = 2 * 2 ^ 52 := by decide
  rw [hB] at hK
  have h1 : E * 2 ^ 52 ≤ 2000 * 2 ^ 52 := Nat.mul_le_mul_right (2 ^ 52) hE
  generalize (2 : Nat) ^ 52 = B at *
  generalize E * B = X at *
  have h2 : X + K ≤ 2047 * B := by omega
  exact Nat.min_eq_left h2

theorem nearest_val (s : Bool) (m : Nat) (p : Int) (hm : 0 < m) (hlo : -1074 ≤ p ∨ -1022 ≤ p + m.log2) (hhi : p + m.log2 ≤ 900) :
    ∃ v, Val (double.nearest s m p) v ∧ (v - vl s m p).abs ≤ vl false m p * eps := by
  have hL1 : 2 ^ m.log2 ≤ m := Nat.log2_self_le (by omega)
  have hL2 : m < 2 ^ (m.log2 + 1) := Nat.lt_log2_self
  generalize hL : m.log2 = L at *
  obtain ⟨P, hP⟩ : ∃ P, P = max (p + (L : Int) - 52) (-1074) := ⟨_, rfl⟩
  obtain ⟨a, ha⟩ : ∃ a, a = (p - P).toNat := ⟨_, rfl⟩
  obtain ⟨d, hd⟩ : ∃ d, d = (P - p).toNat := ⟨_, rfl⟩
  obtain ⟨E, hE⟩ : ∃ E, E = (P + 1074).toNat := ⟨_, rfl⟩
  have hcut := cut_even s (m * 2 ^ a) d
  obtain ⟨K, hK⟩ : ∃ K, K = Toward.even.cut s (m * 2 ^ a) d := ⟨_, rfl⟩
  rw [← hK] at hcut
  obtain ⟨hc1, hc2, hc3, hc4⟩ := hcut
  have hlt : m * 2 ^ a < 2 ^ 53 * 2 ^ d := shift_lt m a d L (by omega) hL2
  have hp2 : 0 < 2 ^ d := Nat.two_pow_pos d
  have hKle : K ≤ 2 ^ 53 := by
    have : m * 2 ^ a / 2 ^ d < 2 ^ 53 := (Nat.div_lt_iff_lt_mul hp2).2 hlt
    omega
  have hKge : E = 0 ∨ 2 ^ 52 ≤ K := by
    by_cases c : P = p + (L : Int) - 52
    · right
      have := shift_le m a d L (by omega) hL1
      have : 2 ^ 52 ≤ m * 2 ^ a / 2 ^ d := (Nat.le_div_iff_mul_le hp2).2 this
      omega
    · left; omega
  have hE2 : E ≤ 2000 := by omega
  have hnear : double.nearest s m p = double.word s (E * 2 ^ 52 + K) := by
    unfold Format.nearest
    rw [if_neg (by omega), hL]
    have hf : double.fractionBits = 52 := rfl
    have hPP : max (p + (L : Int) - (double.fractionBits : Nat)) double.leastPlace = P := by rw [hP, leastPlace_d, hf]; rfl
    simp only [hPP, Nat.shiftLeft_eq]
    rw [← ha, ← hd, ← hK, leastPlace_d, binade_d, infRung_d, show (P - -1074).toNat = E by omega]
    rw [min_rung E K hE2 hKle]
  refine ⟨vl s K P, ?_, ?_⟩
  · rw [hnear]
    have := rung_val s E K hE2 hKle hKge
    rwa [show (E : Int) - 1074 = P by omega] at this
  · have main : ((K : Rat) * tw P - (m : Rat) * tw p).abs ≤ (m : Rat) * tw p * eps := by
      by_cases c : P ≤ p
      · have hd0 : d = 0 := by omega
        subst hd0
        have hKm : K = m * 2 ^ a := by simp at hc1 hc2 hc3 hc4; omega
        have : (K : Rat) * tw P = (m : Rat) * tw p := by
          rw [hKm, Rat.natCast_mul, ← tw_nat, Rat.mul_assoc, ← tw_add, show (a : Int) + P = p by omega]
        rw [this, show (m : Rat) * tw p - (m : Rat) * tw p = 0 by grind, Rat.abs_zero]
        exact Rat.mul_nonneg (vl_nonneg m p) (Rat.le_of_lt (tw_pos _))
      · have ha0 : a = 0 := by omega
        subst ha0
        rw [Nat.pow_zero, Nat.mul_one] at hc3 hc4
        have hPn : P = p + (L : Int) - 52 := by omega
        have hPd : tw P = tw (d : Int) * tw p := by rw [← tw_add]; congr 1; omega
        have r3 : 2 * ((K : Rat) * tw (d : Int)) ≤ 2 * (m : Rat) + tw (d : Int) := by
          rw [tw_nat]
          have := Rat.natCast_le_natCast.2 hc3
          simp only [Rat.natCast_mul, Rat.natCast_add] at this
          exact this
        have r4 : 2 * (m : Rat) ≤ 2 * ((K : Rat) * tw (d : Int)) + tw (d : Int) := by
          rw [tw_nat]
          have := Rat.natCast_le_natCast.2 hc4
          simp only [Rat.natCast_mul, Rat.natCast_add] at this
          exact this
        have hLm : tw (L : Int) ≤ (m : Rat) := by rw [tw_nat]; exact Rat.natCast_le_natCast.2 hL1
        have hdL : tw (d : Int) = 2 * (tw (L : Int) * eps) := by
          unfold eps
          rw [← tw_add, show ((2 : Rat)) = tw 1 from tw_one.symm, ← tw_add]; congr 1; omega
        have hdm : tw (d : Int) ≤ 2 * ((m : Rat) * eps) := by
          rw [hdL]
          have := Rat.mul_le_mul_of_nonneg_right hLm (Rat.le_of_lt (tw_pos (-53)))
          unfold eps
          grind
        rw [hPd]
        have hp0 := tw_pos p
        have e1 : (K : Rat) * (tw (d : Int) * tw p) - (m : Rat) * tw p = ((K : Rat) * tw (d : Int) - m) * tw p := by grind
        have e2 : (m : Rat) * tw p * eps = ((m : Rat) * eps) * tw p := by grind
        rw [e1, e2]
        have b1 : (K : Rat) * tw (d : Int) - m ≤ (m : Rat) * eps := by grind
        have b2 : -((m : Rat) * eps) ≤ (K : Rat) * tw (d : Int) - m := by grind
        have c1 := Rat.mul_le_mul_of_nonneg_right b1 (Rat.le_of_lt hp0)
        have c2 := Rat.mul_le_mul_of_nonneg_right b2 (Rat.le_of_lt hp0)
        exact abs_le (by grind) c1
    cases s
    · exact main
    · rw [vl_true, vl_true, vl_false]
      have : -(↑K * tw P) - -(↑m * tw p) = -((K : Rat) * tw P - (m : Rat) * tw p) := by grind
      rw [this, Rat.abs_neg]
      exact main

end Go.Proofs.YthhhcfipmeganaaDoor.Fr
