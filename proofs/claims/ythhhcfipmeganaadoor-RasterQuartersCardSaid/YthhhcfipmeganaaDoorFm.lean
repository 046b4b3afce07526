/-
  A float's sign turned; a float against itself; that roots are there. Plain laws. No condition.
-/
import Derived.Test.YthhhcfipmeganaaDoorFl
namespace Go.Proofs.YthhhcfipmeganaaDoor.Fl
open Ieee

theorem add_xor (R : Nat) (h : R < 2 ^ 63) : R ^^^ 2 ^ 63 = 2 ^ 63 + R := by
  apply Nat.eq_of_testBit_eq
  intro i
  rw [Nat.testBit_xor, Nat.testBit_two_pow]
  rcases Nat.lt_trichotomy i 63 with c | c | c
  · rw [Nat.testBit_two_pow_add_gt c]
    have hne : ¬ (63 = i) := by omega
    simp [hne]
  · subst c; rw [Nat.testBit_two_pow_add_eq]; simp
  · have h1 : R.testBit i = false := Nat.testBit_lt_two_pow (Nat.lt_of_lt_of_le h (Nat.pow_le_pow_right (by decide) (by omega)))
    have h2 : (2 ^ 63 + R).testBit i = false := Nat.testBit_lt_two_pow (Nat.lt_of_lt_of_le (by omega : 2 ^ 63 + R < 2 ^ 64) (Nat.pow_le_pow_right (by decide) (by omega)))
    have hne : ¬ (63 = i) := by omega
    rw [h1, h2]; simp [hne]

theorem xor_add (R : Nat) (h : R < 2 ^ 63) : (2 ^ 63 + R) ^^^ 2 ^ 63 = R := by
  rw [← add_xor R h, Nat.xor_assoc, Nat.xor_self, Nat.xor_zero]

theorem word_neg (s : Bool) (R : Nat) (h : R < 2 ^ 63) : double.word s R ^^^ 2 ^ 63 = double.word (!s) R := by
  unfold Format.word
  rw [sign_d]
  cases s
  · exact add_xor R h
  · exact xor_add R h

theorem I_word (n : Int) (hn : n ≠ 0) (h : n.natAbs < 2 ^ 53) : ∃ R, R < 2 ^ 63 ∧ I n = double.word (decide (n < 0)) R ∧ I (-n) = double.word (decide (-n < 0)) R := by
  have h1 := nearest_whole (decide (n < 0)) n.natAbs 0 (by omega) h
  have h2 := nearest_whole (decide (-n < 0)) (-n).natAbs 0 (by omega) (by rw [Int.natAbs_neg]; exact h)
  have hb := big_of n.natAbs (by omega) h
  have hL := log2_le52 _ h
  refine ⟨(n.natAbs.log2 + 1022) * 2 ^ 52 + n.natAbs * 2 ^ (52 - n.natAbs.log2), ?_, ?_, ?_⟩
  · have : (n.natAbs.log2 + 1022) * 2 ^ 52 ≤ 1074 * 2 ^ 52 := Nat.mul_le_mul_right _ (by omega)
    omega
  · rw [← h1]; simp [I]
  · rw [Int.natAbs_neg] at h2
    rw [← h2]; simp [I]

theorem neg_is (n : Int) (h : n.natAbs < 2 ^ 53) : Is (I n ^^^ 2 ^ 63) (-n) := by
  by_cases h0 : n = 0
  · subst h0
    right
    refine ⟨rfl, ?_⟩
    rw [I_zero]; decide +kernel
  · left
    obtain ⟨R, hR, e1, e2⟩ := I_word n h0 h
    rw [e1, word_neg _ _ hR, e2]
    congr 1
    by_cases c : n < 0
    · simp [c]; omega
    · simp [c]; omega

/-- What is written of a number is no NaN. -/
theorem order_self (s : Bool) (m : Nat) (p : Int) : double.order (double.nearest s m p) (double.nearest s m p) = some .eq := by
  have key : ∀ R, R ≤ double.infRung → double.order (double.word s R) (double.word s R) = some .eq := by
    intro R hR
    rw [infRung_d] at hR
    have hmod : double.word s R % 2 ^ 63 = R := by
      unfold Format.word; rw [sign_d]; cases s <;> simp <;> omega
    unfold Format.order
    have hread : (∃ t a b, double.read (double.word s R) = .number t a b) ∨ ∃ t, double.read (double.word s R) = .infinity t := by
      unfold Format.read
      simp only [sign_d, hmod, binade_d, infRung_d]
      split
      · exact .inl ⟨_, _, _, rfl⟩
      · split
        · exact .inl ⟨_, _, _, rfl⟩
        · rw [if_pos (by omega)]; exact .inr ⟨_, rfl⟩
    rcases hread with ⟨t, a, b, e⟩ | ⟨t, e⟩
    · rw [e]
      simp [Datum.order, compare, compareOfLessAndEq]
    · rw [e]
      cases t <;> rfl
  unfold Format.nearest
  split
  · exact key 0 (Nat.zero_le _)
  · exact key _ (Nat.min_le_right _ _)

/-- The root of a whole number that is not negative is there, and is no NaN. -/
theorem sqrt_there (N : Int) (h0 : 0 ≤ N) (h : N.natAbs < 2 ^ 53) : ∃ r, double.sqrt (I N) = some r ∧ double.order r r = some .eq := by
  obtain ⟨p, hr⟩ := rep_I N h
  have hs : decide (N < 0) = false := by simp; omega
  rw [hs] at hr
  unfold Format.sqrt
  rw [hr.read]
  unfold Datum.root
  split
  · rename_i e; cases e
  · rename_i e; cases e
  · rename_i s m i e
    cases e
    split
    · exact ⟨_, rfl, order_self _ _ _⟩
    · rw [if_neg (by decide)]
      exact ⟨_, rfl, order_self _ _ _⟩
end Go.Proofs.YthhhcfipmeganaaDoor.Fl
