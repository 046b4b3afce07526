/-
  The walks of raster's place and Dots on whole numbers, and what lies on the way from one point to another one. No condition beyond the numbers' bounds.
-/
import Derived.Test.YthhhcfipmeganaaDoorRa
import Derived.Test.YthhhcfipmeganaaDoorWLast
import Derived.Test.YthhhcfipmeganaaDoorWMore
import Derived.Laws.AppendOwn
import Derived.WalkSmall
namespace Go.Proofs.YthhhcfipmeganaaDoor.Rd
open Go.RowKit Go.Proofs.YthhhcfipmeganaaDoorW.PrintWords Go.Proofs.YthhhcfipmeganaaDoorW.PrintLast Go.Proofs.YthhhcfipmeganaaDoorW.PrintMore
open Fl Ra
set_option linter.unusedSimpArgs false
set_option linter.unusedVariables false

/-! ### Plain facts -/
def wayV (d k n : Int) : Int := (2 * d * k + n) / (2 * n)
theorem way_zero (d n : Int) (hn : 0 ≤ n) : wayV d 0 n = 0 := by
  unfold wayV
  rw [Int.mul_zero, Int.zero_add]
  by_cases h : n = 0
  · subst h; rfl
  · exact Int.ediv_eq_zero_of_lt (by omega) (by omega)
theorem way_full (d n : Int) (hn : 0 < n) : wayV d n n = d := by
  unfold wayV
  have e : 2 * d * n + n = n + d * (2 * n) := by rw [Int.mul_comm 2 d, Int.mul_assoc]; omega
  rw [e, Int.add_mul_ediv_right _ _ (by omega), Int.ediv_eq_zero_of_lt (by omega) (by omega)]
  omega
theorem way_step (d k n : Int) (hn : 0 < n) (hd : d.natAbs ≤ n.natAbs) : -1 ≤ wayV d (k + 1) n - wayV d k n ∧ wayV d (k + 1) n - wayV d k n ≤ 1 := by
  unfold wayV
  have e : 2 * d * (k + 1) + n = 2 * d * k + n + 2 * d := by rw [Int.mul_add]; omega
  rw [e]
  generalize 2 * d * k + n = x
  have h1 := Int.mul_ediv_add_emod x (2 * n)
  have h2 := Int.emod_nonneg x (show 2 * n ≠ 0 by omega)
  have h3 := Int.emod_lt_of_pos x (show 0 < 2 * n by omega)
  have h4 := Int.mul_ediv_add_emod (x + 2 * d) (2 * n)
  have h5 := Int.emod_nonneg (x + 2 * d) (show 2 * n ≠ 0 by omega)
  have h6 := Int.emod_lt_of_pos (x + 2 * d) (show 0 < 2 * n by omega)
  generalize (x + 2 * d) / (2 * n) = q2 at *
  generalize x / (2 * n) = q1 at *
  generalize (x + 2 * d) % (2 * n) = r2 at *
  generalize x % (2 * n) = r1 at *
  have h7 : 2 * n * (q2 - q1) = 2 * d + r1 - r2 := by rw [Int.mul_sub]; omega
  constructor
  · rcases Int.lt_or_le (q2 - q1) (-1) with h | h
    · exfalso
      have := Int.mul_le_mul_of_nonneg_left (show q2 - q1 ≤ -2 by omega) (show 0 ≤ 2 * n by omega)
      omega
    · exact h
  · rcases Int.lt_or_le 1 (q2 - q1) with h | h
    · exfalso
      have := Int.mul_le_mul_of_nonneg_left (show 2 ≤ q2 - q1 by omega) (show 0 ≤ 2 * n by omega)
      omega
    · exact h
theorem way_pos (k n : Int) (hn : 0 < n) : wayV n k n = k := by
  unfold wayV
  have e : 2 * n * k + n = n + k * (2 * n) := by rw [Int.mul_comm k]; omega
  rw [e, Int.add_mul_ediv_right _ _ (by omega), Int.ediv_eq_zero_of_lt (by omega) (by omega)]
  omega
theorem way_neg (k n : Int) (hn : 0 < n) : wayV (-n) k n = -k := by
  unfold wayV
  have e : 2 * (-n) * k + n = n + -k * (2 * n) := by
    rw [Int.mul_neg, Int.neg_mul, Int.neg_mul, Int.mul_comm k]; omega
  rw [e, Int.add_mul_ediv_right _ _ (by omega), Int.ediv_eq_zero_of_lt (by omega) (by omega)]
  omega
/-- It lies between. -/
theorem way_in (d k n : Int) (hn : 0 < n) (hk0 : 0 ≤ k) (hk : k ≤ n) : (0 ≤ d → 0 ≤ wayV d k n ∧ wayV d k n ≤ d) ∧ (d ≤ 0 → d ≤ wayV d k n ∧ wayV d k n ≤ 0) := by
  unfold wayV
  have h1 := Int.mul_ediv_add_emod (2 * d * k + n) (2 * n)
  have h2 := Int.emod_nonneg (2 * d * k + n) (show 2 * n ≠ 0 by omega)
  have h3 := Int.emod_lt_of_pos (2 * d * k + n) (show 0 < 2 * n by omega)
  generalize (2 * d * k + n) / (2 * n) = q at *
  generalize (2 * d * k + n) % (2 * n) = r at *
  have e : 2 * d * k = 2 * (d * k) := by rw [Int.mul_assoc]
  rw [e] at h1
  constructor
  · intro hd
    have k1 := Int.mul_nonneg hd hk0
    have k2 := Int.mul_le_mul_of_nonneg_left hk hd
    constructor
    · rcases Int.lt_or_le q 0 with h | h
      · exfalso
        have := Int.mul_le_mul_of_nonneg_left (show q ≤ -1 by omega) (show 0 ≤ 2 * n by omega)
        omega
      · exact h
    · rcases Int.lt_or_le d q with h | h
      · exfalso
        have := Int.mul_le_mul_of_nonneg_left (show d + 1 ≤ q by omega) (show 0 ≤ 2 * n by omega)
        rw [Int.mul_add, Int.mul_assoc 2 n d, Int.mul_comm n d] at this
        omega
      · exact h
  · intro hd
    have k1 := Int.mul_le_mul_of_nonneg_right hd hk0
    rw [Int.zero_mul] at k1
    have k2 : d * n ≤ d * k := Int.mul_le_mul_of_nonpos_left hd hk
    constructor
    · rcases Int.lt_or_le q d with h | h
      · exfalso
        have := Int.mul_le_mul_of_nonneg_left (show q ≤ d - 1 by omega) (show 0 ≤ 2 * n by omega)
        rw [Int.mul_sub, Int.mul_assoc 2 n d, Int.mul_comm n d] at this
        omega
      · exact h
    · rcases Int.lt_or_le 0 q with h | h
      · exfalso
        have := Int.mul_le_mul_of_nonneg_left (show 1 ≤ q by omega) (show 0 ≤ 2 * n by omega)
        omega
      · exact h

abbrev P2 := Int × Int
/-- How far, as a king goes. -/
def dn (a b : P2) : Nat := max (b.1 - a.1).natAbs (b.2 - a.2).natAbs
def stepV (a b : P2) (k : Nat) : P2 := (a.1 + wayV (b.1 - a.1) k (dn a b), a.2 + wayV (b.2 - a.2) k (dn a b))
/-- All points of the way. -/
def path (a b : P2) : List P2 := (List.range (dn a b + 1)).map (stepV a b)
theorem path_len (a b : P2) : (path a b).length = dn a b + 1 := by simp [path]
theorem path_get (a b : P2) (k : Nat) (d : P2) (h : k ≤ dn a b) : (path a b).getD k d = stepV a b k := by
  unfold path
  rw [List.getD_eq_getElem?_getD, List.getElem?_map, List.getElem?_range (by omega)]; rfl
theorem path_take (a b : P2) (k : Nat) (h : k < dn a b + 1) : (path a b).take (k + 1) = (path a b).take k ++ [stepV a b k] := by
  rw [List.take_add_one]
  congr 1
  unfold path
  rw [List.getElem?_map, List.getElem?_range h]; rfl
theorem step_zero (a b : P2) : stepV a b 0 = a := by
  unfold stepV
  rw [show ((0 : Nat) : Int) = 0 from rfl, way_zero _ _ (by omega), way_zero _ _ (by omega)]
  simp
theorem step_full (a b : P2) : stepV a b (dn a b) = b := by
  unfold stepV
  by_cases h : dn a b = 0
  · have h1 : b.1 - a.1 = 0 ∧ b.2 - a.2 = 0 := by unfold dn at h; omega
    rw [h, h1.1, h1.2, show ((0 : Nat) : Int) = 0 from rfl, way_zero _ _ (by omega)]
    apply Prod.ext <;> simp <;> omega
  · rw [way_full _ _ (by omega), way_full _ _ (by omega)]
    apply Prod.ext <;> simp <;> omega
abbrev InP (p : P2) : Prop := In p.1 ∧ In p.2
theorem way_bound (d k n m : Int) (hn : 0 < n) (hk0 : 0 ≤ k) (hk : k ≤ n) (h : d.natAbs ≤ m.natAbs) : (wayV d k n).natAbs ≤ d.natAbs := by
  obtain ⟨h1, h2⟩ := way_in d k n hn hk0 hk
  rcases Int.le_total 0 d with c | c
  · have := h1 c; omega
  · have := h2 c; omega
theorem between (a b k n : Int) (hn : 0 < n) (hk0 : 0 ≤ k) (hk : k ≤ n) (ha : In a) (hb : In b) : In (a + wayV (b - a) k n) := by
  obtain ⟨h1, h2⟩ := way_in (b - a) k n hn hk0 hk
  unfold In at *
  rcases Int.le_total 0 (b - a) with c | c
  · have := h1 c; omega
  · have := h2 c; omega
theorem step_in (a b : P2) (ha : InP a) (hb : InP b) (k : Nat) (hk : k ≤ dn a b) : InP (stepV a b k) := by
  by_cases h : dn a b = 0
  · have : k = 0 := by omega
    rw [this, step_zero]; exact ha
  · exact ⟨between _ _ _ _ (by omega) (by omega) (by omega) ha.1 hb.1, between _ _ _ _ (by omega) (by omega) (by omega) ha.2 hb.2⟩
theorem dn_sym (a b : P2) : dn a b = dn b a := by unfold dn; omega
/-- Each step is a king's. -/
theorem step_one (a b : P2) (k : Nat) (hk : k < dn a b) : (-1 ≤ (stepV a b (k + 1)).1 - (stepV a b k).1 ∧ (stepV a b (k + 1)).1 - (stepV a b k).1 ≤ 1) ∧ (-1 ≤ (stepV a b (k + 1)).2 - (stepV a b k).2 ∧ (stepV a b (k + 1)).2 - (stepV a b k).2 ≤ 1) ∧
    ¬ ((stepV a b (k + 1)).1 - (stepV a b k).1 = 0 ∧ (stepV a b (k + 1)).2 - (stepV a b k).2 = 0) := by
  have hn : 0 < (dn a b : Int) := by omega
  have h1 := way_step (b.1 - a.1) k (dn a b) hn (by unfold dn; omega)
  have h2 := way_step (b.2 - a.2) k (dn a b) hn (by unfold dn; omega)
  have e : ((k + 1 : Nat) : Int) = (k : Int) + 1 := by omega
  simp only [stepV, e]
  refine ⟨by omega, by omega, fun ⟨z1, z2⟩ => ?_⟩
  have hc : (b.1 - a.1 = dn a b ∨ b.1 - a.1 = -(dn a b : Int)) ∨ (b.2 - a.2 = dn a b ∨ b.2 - a.2 = -(dn a b : Int)) := by unfold dn; omega
  rcases hc with (c | c) | (c | c)
  · rw [c, way_pos _ _ hn, way_pos _ _ hn] at z1; omega
  · rw [c, way_neg _ _ hn, way_neg _ _ hn] at z1; omega
  · rw [c, way_pos _ _ hn, way_pos _ _ hn] at z2; omega
  · rw [c, way_neg _ _ hn, way_neg _ _ hn] at z2; omega
end Go.Proofs.YthhhcfipmeganaaDoor.Rd
