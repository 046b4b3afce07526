/-
  A quotient of whole numbers as a double, and its floor. Plain laws. No condition beyond the numbers' bounds.
-/
import Derived.Test.YthhhcfipmeganaaDoorFo
namespace Go.Proofs.YthhhcfipmeganaaDoor.Fd
open Ieee Fl Fr
set_option linter.unusedSimpArgs false
set_option linter.unusedVariables false

/-- What is cut, towards below. -/
theorem cut_down (s : Bool) (n d : Nat) : Toward.down.cut s n d = n / 2 ^ d + (s && n % 2 ^ d != 0).toNat := by
  unfold Toward.cut
  simp only [Nat.one_shiftLeft]
  by_cases c : d ≤ n.log2 + 2
  · rw [Nat.min_eq_left c]
  · rw [Nat.min_eq_right (by omega)]
    have h1 : n < 2 ^ (n.log2 + 2) := Nat.lt_of_lt_of_le Nat.lt_log2_self (Nat.pow_le_pow_right (by decide) (by omega))
    have h2 : n < 2 ^ d := Nat.lt_of_lt_of_le h1 (Nat.pow_le_pow_right (by decide) (by omega))
    rw [Nat.div_eq_of_lt h1, Nat.div_eq_of_lt h2, Nat.mod_eq_of_lt h1, Nat.mod_eq_of_lt h2]

theorem div_up (A B F : Nat) (hB : 0 < B) (h1 : A ≤ F * B) (h2 : F * B < A + B) : A / B + (true && A % B != 0).toNat = F := by
  have hd := Nat.div_add_mod A B
  have hm := Nat.mod_lt A hB
  have hc : B * (A / B) = A / B * B := Nat.mul_comm _ _
  generalize A / B = q at *
  generalize A % B = r at *
  rw [hc] at hd
  clear hc
  by_cases c : r = 0
  · subst c
    simp
    have e1 : q ≤ F := by
      rcases Nat.lt_or_ge F q with h | h
      · have := Nat.mul_le_mul_right B (show F + 1 ≤ q from h)
        rw [Nat.add_mul] at this; omega
      · exact h
    have e2 : F ≤ q := by
      rcases Nat.lt_or_ge q F with h | h
      · have := Nat.mul_le_mul_right B (show q + 1 ≤ F from h)
        rw [Nat.add_mul] at this; omega
      · exact h
    omega
  · have hb : (true && r != 0).toNat = 1 := by simp [c]
    rw [hb]
    have e1 : q + 1 ≤ F := by
      rcases Nat.lt_or_ge F (q + 1) with h | h
      · have := Nat.mul_le_mul_right B (show F ≤ q by omega)
        omega
      · exact h
    have e2 : F ≤ q + 1 := by
      rcases Nat.lt_or_ge (q + 1) F with h | h
      · have := Nat.mul_le_mul_right B (show q + 2 ≤ F from h)
        rw [Nat.add_mul] at this; omega
      · exact h
    omega
theorem div_down (A B F : Nat) (hB : 0 < B) (h1 : F * B ≤ A) (h2 : A < F * B + B) : A / B = F := by
  have h3 : A < (F + 1) * B := by rw [Nat.add_mul]; omega
  exact Nat.le_antisymm (Nat.le_of_lt_succ ((Nat.div_lt_iff_lt_mul hB).2 h3)) ((Nat.le_div_iff_mul_le hB).2 h1)

/-- The floor of a number that lies between f and f + 1. -/
theorem floor_is (s : Bool) (m : Nat) (p : Int) (f : Int) (hf : f.natAbs < 2 ^ 53) (h1 : (f : Rat) ≤ vl s m p) (h2 : vl s m p < (f : Rat) + 1) (h3 : f = 0 → s = false) :
    double.write (Datum.integral .down (.number s m p)) = I f := by
  show double.nearest s (Toward.down.cut s (m <<< p.toNat) (-p).toNat) 0 = I f
  rw [cut_down, Nat.shiftLeft_eq]
  obtain ⟨A, hA⟩ : ∃ A, A = m * 2 ^ p.toNat := ⟨_, rfl⟩
  obtain ⟨B, hB⟩ : ∃ B, B = 2 ^ (-p).toNat := ⟨_, rfl⟩
  have hB0 : 0 < B := by rw [hB]; exact Nat.two_pow_pos _
  have hAB : vl false m p * (B : Rat) = (A : Rat) := by
    rw [vl_false, hB, ← tw_nat, hA, Rat.natCast_mul, ← tw_nat, Rat.mul_assoc, ← tw_add]
    congr 2
    omega
  have hBr : (0 : Rat) < (B : Rat) := Rat.natCast_pos.2 hB0
  rw [← hA, ← hB]
  cases s
  · have k1 := Rat.mul_le_mul_of_nonneg_right h1 (Rat.le_of_lt hBr)
    have k2 := Rat.mul_lt_mul_of_pos_right h2 hBr
    rw [hAB] at k1 k2
    have hf0 : 0 ≤ f := by
      rcases Int.lt_or_le f 0 with c | c
      · exfalso
        have h4 : (f : Rat) + 1 ≤ 0 := by
          have := (Rat.intCast_le_intCast (a := f + 1) (b := 0)).2 (by omega)
          simpa using this
        have h5 := vl_nonneg m p
        grind
      · exact c
    obtain ⟨F, rfl⟩ := Int.eq_ofNat_of_zero_le hf0
    have k3 : F * B ≤ A := by
      have : ((F * B : Nat) : Rat) ≤ (A : Rat) := by rw [Rat.natCast_mul]; exact k1
      exact Rat.natCast_le_natCast.1 this
    have k4 : A < F * B + B := by
      have : (A : Rat) < ((F * B + B : Nat) : Rat) := by
        rw [Rat.natCast_add, Rat.natCast_mul]
        have e : ((F : Int) : Rat) = (F : Rat) := rfl
        rw [e] at k2
        grind
      exact Rat.natCast_lt_natCast.1 this
    rw [div_down A B F hB0 k3 k4]
    have hd : decide ((F : Int) < 0) = false := decide_eq_false (by omega)
    simp [I, hd]
  · have hv : vl true m p = -vl false m p := by rw [vl_true, vl_false]
    rw [hv] at h1 h2
    have k1 := Rat.mul_le_mul_of_nonneg_right h1 (Rat.le_of_lt hBr)
    have k2 := Rat.mul_lt_mul_of_pos_right h2 hBr
    rw [Rat.neg_mul, hAB] at k1 k2
    have hf0 : f ≤ 0 := by
      rcases Int.lt_or_le 0 f with c | c
      · exfalso
        have h4 : (1 : Rat) ≤ (f : Rat) := by
          have := (Rat.intCast_le_intCast (a := 1) (b := f)).2 (by omega)
          simpa using this
        have h5 := vl_nonneg m p
        grind
      · exact c
    have hf1 : f ≠ 0 := fun h => by have := h3 h; cases this
    obtain ⟨F, hF⟩ := Int.eq_ofNat_of_zero_le (show 0 ≤ -f by omega)
    obtain rfl : f = -(F : Int) := by omega
    have e : (((-(F : Int)) : Int) : Rat) = -(F : Rat) := by rw [Rat.intCast_neg]; rfl
    rw [e] at k1 k2
    have k3 : A ≤ F * B := by
      have : (A : Rat) ≤ ((F * B : Nat) : Rat) := by rw [Rat.natCast_mul]; grind
      exact Rat.natCast_le_natCast.1 this
    have k4 : F * B < A + B := by
      have : ((F * B : Nat) : Rat) < ((A + B : Nat) : Rat) := by
        rw [Rat.natCast_add, Rat.natCast_mul]; grind
      exact Rat.natCast_lt_natCast.1 this
    rw [div_up A B F hB0 k3 k4]
    have hd : decide (-(F : Int) < 0) = true := decide_eq_true (by omega)
    unfold I
    rw [hd, Int.natAbs_neg, Int.natAbs_natCast]

/-- The bounds that are asked of a quotient. -/
theorem log2_22 (k : Nat) (h : k < 2 ^ 22) : k.log2 ≤ 21 := by
  by_cases h0 : k = 0
  · subst h0; decide
  · have := (Nat.log2_lt h0).2 h; omega

def qd (a b e : Nat) : Nat := 2 * (a * 2 ^ e / b) + (a * 2 ^ e % b != 0).toNat
theorem div_I (a b : Int) (ha0 : a ≠ 0) (hb0 : 0 < b) (ha : a.natAbs < 2 ^ 22) (hb : b.natAbs < 2 ^ 22) :
    ∃ e : Nat, 33 ≤ e ∧ e ≤ 75 ∧ double.div (I a) (I b) = some (double.write (Datum.number (decide (a < 0)) (qd a.natAbs b.natAbs e) (-((e : Int) + 1)))) := by
  have r1 := (read_I a ha0 (by omega)).read
  have r2 := (read_I b (by omega) (by omega)).read
  have L1 := log2_22 _ ha
  have L2 := log2_22 _ hb
  have hdb : decide (b < 0) = false := decide_eq_false (by omega)
  rw [hdb] at r2
  have l1 := log2_shift a.natAbs (52 - a.natAbs.log2) (by omega)
  have l2 := log2_shift b.natAbs (52 - b.natAbs.log2) (by omega)
  have hn0 : b.natAbs * 2 ^ (52 - b.natAbs.log2) ≠ 0 := Nat.mul_ne_zero (by omega) (Nat.pos_iff_ne_zero.1 (Nat.two_pow_pos _))
  obtain ⟨i, hi⟩ : ∃ i, i = 52 - a.natAbs.log2 := ⟨_, rfl⟩
  obtain ⟨j, hj⟩ : ∃ j, j = 52 - b.natAbs.log2 := ⟨_, rfl⟩
  rw [← hi] at r1 l1
  rw [← hj] at r2 l2 hn0
  obtain ⟨e, he⟩ : ∃ e, i + 54 = e + j := ⟨i + 54 - j, by omega⟩
  refine ⟨e, by omega, by omega, ?_⟩
  have hfb : double.fractionBits = 52 := rfl
  unfold Format.div qd
  rw [r1, r2]
  simp only [Datum.quotient, hfb, if_neg hn0, Option.map_some, Bool.xor_false]
  have hmore : 52 + 2 + (b.natAbs * 2 ^ j).log2 - (a.natAbs * 2 ^ i).log2 = 54 := by omega
  rw [hmore]
  have hD : (a.natAbs * 2 ^ i) <<< 54 = a.natAbs * 2 ^ e * 2 ^ j := by
    rw [Nat.shiftLeft_eq, Nat.mul_assoc, Nat.mul_assoc, ← Nat.pow_add, ← Nat.pow_add, he]
  rw [hD, Nat.mul_div_mul_right _ _ (Nat.two_pow_pos j), Nat.mul_mod_mul_right]
  have hrem : (a.natAbs * 2 ^ e % b.natAbs * 2 ^ j != 0) = (a.natAbs * 2 ^ e % b.natAbs != 0) := by
    have hp := Nat.two_pow_pos j
    generalize a.natAbs * 2 ^ e % b.natAbs = r
    generalize (2 ^ j : Nat) = B at *
    by_cases c : r = 0
    · subst c; rw [Nat.zero_mul]
    · have h1 : r * B ≠ 0 := Nat.mul_ne_zero c (by omega)
      rw [bne_iff_ne.2 c, bne_iff_ne.2 h1]
  have hpl : (-(i : Int)) - (-(j : Int)) - ((54 : Nat) : Int) - 1 = -((e : Int) + 1) := by omega
  rw [hrem, hpl]
theorem qd_bounds (A b g e : Nat) (hb0 : 0 < b) (hb : b < 2 ^ 12) (hA : A < 2 ^ 21) (he : 33 ≤ e) (h1 : b * g < A) (h2 : A < b * g + b) :
    2 * (b * g * 2 ^ e) + 2 * 2 ^ e ≤ qd A b e * b + 2 * b ∧ qd A b e * b + 2 * 2 ^ e ≤ 2 * (b * g * 2 ^ e) + 2 * (b * 2 ^ e) + b ∧ qd A b e * b ≤ 2 ^ e * 2 ^ 23 ∧ 8 * b ≤ 2 ^ e := by
  have hP : 2 ^ 33 ≤ 2 ^ e := Nat.pow_le_pow_right (by decide) he
  obtain ⟨P, hPP⟩ : ∃ P, P = 2 ^ e := ⟨_, rfl⟩
  unfold qd
  rw [← hPP] at hP ⊢
  have hd := Nat.div_add_mod (A * P) b
  have hm := Nat.mod_lt (A * P) hb0
  generalize A * P / b = q at *
  generalize hr : A * P % b = r at *
  have hδ : (r != 0).toNat ≤ 1 := by cases (r != 0) <;> decide
  generalize (r != 0).toNat = δ at *
  have k1 : (b * g + 1) * P ≤ A * P := Nat.mul_le_mul_right P h1
  have k2 : (A + 1) * P ≤ (b * g + b) * P := Nat.mul_le_mul_right P h2
  have k3 : A * P ≤ 2 ^ 21 * P := Nat.mul_le_mul_right P (by omega)
  rw [Nat.add_mul, Nat.one_mul] at k1
  rw [Nat.add_mul, Nat.add_mul, Nat.one_mul] at k2
  have e1 : (2 * q + δ) * b = 2 * (b * q) + δ * b := by rw [Nat.add_mul, Nat.mul_assoc, Nat.mul_comm q b]
  have e2 : δ * b ≤ 1 * b := Nat.mul_le_mul_right b hδ
  rw [e1]
  generalize δ * b = y at *
  generalize b * q = x at *
  generalize A * P = z at *
  generalize b * g * P = G at *
  generalize b * P = BP at *
  refine ⟨by omega, by omega, ?_, by omega⟩
  rw [Nat.mul_comm P]
  omega

theorem qd_small (A b e : Nat) (hA : A < 2 ^ 21) (he : e ≤ 75) : vl false (qd A b e) (-((e : Int) + 1)) ≤ tw 800 := by
  have h1 : A * 2 ^ e ≤ 2 ^ 21 * 2 ^ 75 := Nat.mul_le_mul (by omega) (Nat.pow_le_pow_right (by decide) he)
  have h2 : qd A b e ≤ 2 ^ 98 := by
    unfold qd
    have h3 := Nat.div_le_self (A * 2 ^ e) b
    have h4 : (A * 2 ^ e % b != 0).toNat ≤ 1 := by cases (A * 2 ^ e % b != 0) <;> decide
    have h5 : (2 : Nat) ^ 21 * 2 ^ 75 = 79228162514264337593543950336 := by decide
    have h6 : (2 : Nat) ^ 98 = 316912650057057350374175801344 := by decide
    omega
  have h7 : tw (-((e : Int) + 1)) ≤ 1 := by rw [← tw_zero]; exact tw_mono (by omega)
  have h8 : ((qd A b e : Nat) : Rat) ≤ tw 98 := by
    have := tw_nat 98
    rw [show ((98 : Nat) : Int) = 98 by rfl] at this
    rw [this]
    exact Rat.natCast_le_natCast.2 h2
  have h9 : tw 98 ≤ tw 800 := tw_mono (by decide)
  rw [vl_false]
  have h0 : (0 : Rat) ≤ ((qd A b e : Nat) : Rat) := Rat.natCast_nonneg
  have := Rat.mul_le_mul_of_nonneg_left h7 h0
  rw [Rat.mul_one] at this
  exact Rat.le_trans this (Rat.le_trans h8 h9)

theorem eps23 : (8388608 : Rat) * eps ≤ 1 / 8 := by
  have h : tw 23 * eps = tw (-30) := by unfold eps; rw [← tw_add]; rfl
  have h23 : tw 23 = 8388608 := by
    have := tw_nat 23
    simpa using this
  rw [h23] at h
  rw [h]
  have h3 : tw (-30) ≤ tw (-3) := tw_mono (by decide)
  have h4 : tw (-3) * tw 3 = 1 := by rw [← tw_add]; exact tw_zero
  have h5 : tw 3 = 8 := by
    have := tw_nat 3
    simpa using this
  rw [h5] at h4
  grind

theorem quot_pos (A b g e : Nat) (hb0 : 0 < b) (hb : b < 2 ^ 12) (hA : A < 2 ^ 21) (he : 33 ≤ e) (h1 : b * g < A) (h2 : A < b * g + b) (w : Rat)
    (hw : (w - vl false (qd A b e) (-((e : Int) + 1))).abs ≤ vl false (qd A b e) (-((e : Int) + 1)) * eps) : (g : Rat) < w ∧ w < (g : Rat) + 1 := by
  obtain ⟨n1, n2, n3, n4⟩ := qd_bounds A b g e hb0 hb hA he h1 h2
  have hP0 : 0 < 2 ^ e := Nat.two_pow_pos e
  have hV : vl false (qd A b e) (-((e : Int) + 1)) * (2 * ((2 ^ e : Nat) : Rat)) = ((qd A b e : Nat) : Rat) := by
    rw [vl_false, ← tw_nat, show (2 : Rat) = tw 1 from tw_one.symm, ← tw_add, Rat.mul_assoc, ← tw_add]
    rw [show (-((e : Int) + 1)) + (1 + (e : Int)) = 0 by omega, tw_zero]
    grind
  generalize vl false (qd A b e) (-((e : Int) + 1)) = V at *
  have c1 := Rat.natCast_le_natCast.2 n1
  have c2 := Rat.natCast_le_natCast.2 n2
  have c3 := Rat.natCast_le_natCast.2 n3
  have c4 := Rat.natCast_le_natCast.2 n4
  generalize qd A b e = M at *
  generalize (2 ^ e : Nat) = P at *
  have hPr : (0 : Rat) < (P : Rat) := Rat.natCast_pos.2 hP0
  have hbr : (0 : Rat) < (b : Rat) := Rat.natCast_pos.2 hb0
  simp only [Rat.natCast_add, Rat.natCast_mul] at c1 c2 c3 c4
  have t2 : ((2 : Nat) : Rat) = 2 := rfl
  have t8 : ((8 : Nat) : Rat) = 8 := rfl
  have t23 : ((2 ^ 23 : Nat) : Rat) = 8388608 := by rw [show (2 ^ 23 : Nat) = 8388608 by decide]; rfl
  rw [t2] at c1 c2
  rw [t8] at c4
  rw [t23] at c3
  have hε := eps23
  have hε0 : 0 < eps := tw_pos _
  obtain ⟨w1, w2⟩ := le_abs (w - V)
  have u1 : w - V ≤ V * eps := Rat.le_trans w1 hw
  have u2 : -(w - V) ≤ V * eps := Rat.le_trans w2 hw
  have hS : (0 : Rat) < 2 * (P : Rat) * (b : Rat) := Rat.mul_pos (Rat.mul_pos (by decide) hPr) hbr
  have v1 := Rat.mul_le_mul_of_nonneg_right u1 (Rat.le_of_lt hS)
  have v2 := Rat.mul_le_mul_of_nonneg_right u2 (Rat.le_of_lt hS)
  have hk : V * (2 * (P : Rat) * (b : Rat)) = (M : Rat) * (b : Rat) := by rw [← hV]; grind
  have hkε : (M : Rat) * (b : Rat) * eps ≤ (P : Rat) * 8388608 * eps := Rat.mul_le_mul_of_nonneg_right c3 (Rat.le_of_lt hε0)
  have hPε : (P : Rat) * ((8388608 : Rat) * eps) ≤ (P : Rat) * (1 / 8) := Rat.mul_le_mul_of_nonneg_left hε (Rat.le_of_lt hPr)
  have x1 : (w - V) * (2 * (P : Rat) * (b : Rat)) = w * (2 * (P : Rat) * (b : Rat)) - (M : Rat) * (b : Rat) := by rw [← hk]; grind
  have x2 : -(w - V) * (2 * (P : Rat) * (b : Rat)) = (M : Rat) * (b : Rat) - w * (2 * (P : Rat) * (b : Rat)) := by rw [← hk]; grind
  have x3 : V * eps * (2 * (P : Rat) * (b : Rat)) = (M : Rat) * (b : Rat) * eps := by rw [← hk]; grind
  rw [x1, x3] at v1
  rw [x2, x3] at v2
  constructor
  · have : (g : Rat) * (2 * (P : Rat) * (b : Rat)) < w * (2 * (P : Rat) * (b : Rat)) := by grind
    exact Rat.lt_of_mul_lt_mul_right this (Rat.le_of_lt hS)
  · have : w * (2 * (P : Rat) * (b : Rat)) < ((g : Rat) + 1) * (2 * (P : Rat) * (b : Rat)) := by grind
    exact Rat.lt_of_mul_lt_mul_right this (Rat.le_of_lt hS)

/-- A quotient of whole numbers: its floor is the quotient rounded down. -/
theorem div_floor (a b : Int) (hb0 : 0 < b) (ha : a.natAbs < 2 ^ 21) (hb : b.natAbs < 2 ^ 12) :
    ∃ x s m p, double.div (I a) (I b) = some x ∧ double.read x = .number s m p ∧ double.write (Datum.integral .down (.number s m p)) = I (a / b) := by
  by_cases ha0 : a = 0
  · subst ha0
    have r2 := (read_I b (by omega) (by omega)).read
    have hdb : decide (b < 0) = false := decide_eq_false (by omega)
    rw [hdb] at r2
    have hn0 : b.natAbs * 2 ^ (52 - b.natAbs.log2) ≠ 0 := Nat.mul_ne_zero (by omega) (Nat.pos_iff_ne_zero.1 (Nat.two_pow_pos _))
    have r1 : double.read (I 0) = .number false 0 (-1074) := by decide +kernel
    have hd : double.div (I 0) (I b) = some 0 := by
      unfold Format.div
      rw [r1, r2]
      simp only [Datum.quotient, if_neg hn0, Option.map_some, Bool.xor_false, Nat.zero_shiftLeft, Nat.zero_div, Nat.zero_mod]
      rfl
    refine ⟨0, false, 0, -1074, hd, by decide +kernel, ?_⟩
    rw [Int.zero_ediv]
    decide +kernel
  · obtain ⟨e, he1, he2, hd⟩ := div_I a b ha0 hb0 (by omega) (by omega)
    have hf := Int.mul_ediv_add_emod a b
    have hr0 := Int.emod_nonneg a (show b ≠ 0 by omega)
    have hr1 := Int.emod_lt_of_pos a hb0
    by_cases hz : a % b = 0
    · -- a whole quotient
      have hc : a = a / b * b := by rw [Int.mul_comm]; omega
      obtain ⟨c, hcc⟩ : ∃ c, c = a / b := ⟨_, rfl⟩
      rw [← hcc] at hc ⊢
      clear hcc hf hr0 hr1 hz
      have hcb : a.natAbs = c.natAbs * b.natAbs := by rw [hc, Int.natAbs_mul]
      have hc0 : c ≠ 0 := by rintro rfl; simp at hc; exact ha0 hc
      have hcl : c.natAbs < 2 ^ 53 := by
        have : c.natAbs * 1 ≤ c.natAbs * b.natAbs := Nat.mul_le_mul_left _ (by omega)
        omega
      have hq : a.natAbs * 2 ^ e / b.natAbs = c.natAbs * 2 ^ e := by
        rw [hcb, Nat.mul_assoc, Nat.mul_comm b.natAbs, ← Nat.mul_assoc, Nat.mul_div_cancel _ (by omega)]
      have hr : a.natAbs * 2 ^ e % b.natAbs = 0 := by
        rw [hcb, Nat.mul_assoc, Nat.mul_comm b.natAbs, ← Nat.mul_assoc, Nat.mul_mod_left]
      unfold qd at hd
      rw [hq, hr] at hd
      have hsg : decide (a < 0) = decide (c < 0) := by
        rw [hc]
        rcases Int.lt_or_gt_of_ne hc0 with h | h
        · have h1 := Int.mul_neg_of_neg_of_pos h hb0
          simp [h, h1]
        · have h1 := Int.mul_pos h hb0
          have h2 : ¬ c < 0 := by omega
          have h3 : ¬ c * b < 0 := by omega
          simp [h2, h3]
      have hm : 2 * (c.natAbs * 2 ^ e) + ((0 : Nat) != 0).toNat = c.natAbs * 2 ^ (e + 1) := by
        rw [show ((0 : Nat) != 0).toNat = 0 from rfl, Nat.add_zero, Nat.pow_succ, Nat.mul_left_comm, Nat.mul_comm 2 (2 ^ e)]
      rw [hm, hsg] at hd
      have hw := write_whole (decide (c < 0)) c (e + 1) hcl (by intro h; simp [h]) (by intro h; simp; omega)
      rw [if_neg hc0] at hw
      rw [show (-(((e + 1 : Nat)) : Int)) = -((e : Int) + 1) by omega] at hw
      rw [hw] at hd
      have hR := (read_I c hc0 hcl).read
      have hV := I_val c hcl
      obtain ⟨s, m, p, hrd, hp, hv⟩ := hV.out
      refine ⟨_, s, m, p, hd, hrd, floor_is s m p c hcl (by rw [← hv]; exact Rat.le_refl) (by rw [← hv]; grind) (fun h => absurd h hc0)⟩
    · -- between two whole numbers
      have hr2 : 0 < a % b := by omega
      have hrange : (qd a.natAbs b.natAbs e = 0) ∨ ((-1074 ≤ (-((e : Int) + 1)) ∨ tw (-1000) ≤ vl false (qd a.natAbs b.natAbs e) (-((e : Int) + 1))) ∧ vl false (qd a.natAbs b.natAbs e) (-((e : Int) + 1)) ≤ tw 800) := by
        right
        exact ⟨.inl (by omega), qd_small a.natAbs b.natAbs e ha he2⟩
      obtain ⟨w, hV, hw⟩ := round_val (decide (a < 0)) (qd a.natAbs b.natAbs e) (-((e : Int) + 1)) hrange
      obtain ⟨s, m, p, hrd, hp, hv⟩ := hV.out
      have hfl : (a / b).natAbs < 2 ^ 53 := by
        have : (a / b).natAbs ≤ a.natAbs := Int.natAbs_ediv_le_natAbs a b
        omega
      have key : ((a / b : Int) : Rat) < w ∧ w < ((a / b : Int) : Rat) + 1 := by
        by_cases hneg : a < 0
        · obtain ⟨g, hg⟩ : ∃ g : Nat, (a / b : Int) = -(g : Int) - 1 := by
            have : a / b < 0 := Int.ediv_neg_of_neg_of_pos hneg hb0
            exact ⟨(-(a / b) - 1).toNat, by omega⟩
          have hbg : b * (a / b) = -((b.natAbs * g : Nat) : Int) - b := by
            rw [hg, Int.natCast_mul, show ((b.natAbs : Nat) : Int) = b by omega, Int.mul_sub, Int.mul_neg, Int.mul_one]
          rw [show decide (a < 0) = true by simp [hneg]] at hw
          have hw2 : (-w - vl false (qd a.natAbs b.natAbs e) (-((e : Int) + 1))).abs ≤ vl false (qd a.natAbs b.natAbs e) (-((e : Int) + 1)) * eps := by
            rw [vl_true] at hw
            rw [vl_false] at hw ⊢
            rw [show -w - (qd a.natAbs b.natAbs e : Rat) * tw (-((e : Int) + 1)) = -(w - -((qd a.natAbs b.natAbs e : Rat) * tw (-((e : Int) + 1)))) by grind, Rat.abs_neg]
            exact hw
          obtain ⟨k1, k2⟩ := quot_pos a.natAbs b.natAbs g e (by omega) hb ha he1 (by omega) (by omega) (-w) hw2
          rw [hg]
          have : ((-(g : Int) - 1 : Int) : Rat) = -(g : Rat) - 1 := by rw [Rat.intCast_sub, Rat.intCast_neg]; rfl
          rw [this]
          constructor <;> grind
        · obtain ⟨g, hg⟩ : ∃ g : Nat, (a / b : Int) = (g : Int) := Int.eq_ofNat_of_zero_le (Int.ediv_nonneg (by omega) (by omega))
          have hbg : b * (a / b) = ((b.natAbs * g : Nat) : Int) := by
            rw [hg, Int.natCast_mul, show ((b.natAbs : Nat) : Int) = b by omega]
          rw [show decide (a < 0) = false by simp [hneg]] at hw
          obtain ⟨k1, k2⟩ := quot_pos a.natAbs b.natAbs g e (by omega) hb ha he1 (by omega) (by omega) w hw
          rw [hg]
          exact ⟨k1, k2⟩
      refine ⟨_, s, m, p, hd, hrd, floor_is s m p (a / b) hfl (by rw [← hv]; exact Rat.le_of_lt key.1) (by rw [← hv]; exact key.2) (fun h => ?_)⟩
      have k := key.1
      rw [h, hv] at k
      cases s
      · rfl
      · exfalso
        have h5 := vl_nonneg m p
        rw [vl_true] at k
        rw [vl_false] at h5
        have h6 : (((0 : Int) : Rat)) = 0 := rfl
        rw [h6] at k
        grind
end Go.Proofs.YthhhcfipmeganaaDoor.Fd
