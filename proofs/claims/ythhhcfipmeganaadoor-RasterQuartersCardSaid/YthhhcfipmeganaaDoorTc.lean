/-
  Where dots begin and end: the walks of TrailingZeros64, Len64, and both Boxes. Condition: the table of TrailingZeros64 lies where its variable does.
-/
import Derived.Test.YthhhcfipmeganaaDoorTb
import Derived.Lib.Tables
import Derived.Lib.BitFns
namespace Go.Proofs.YthhhcfipmeganaaDoor.Rd
open Go.RowKit Go.Proofs.YthhhcfipmeganaaDoorW.PrintWords Go.Proofs.YthhhcfipmeganaaDoorW.PrintLast Go.Proofs.YthhhcfipmeganaaDoorW.PrintMore
open Fl Ra
set_option linter.unusedSimpArgs false
set_option linter.unusedVariables false

/-! ### The least and the greatest bit -/
theorem and_compl (n y : Nat) (h : y < 2 ^ n) : y &&& (2 ^ n - (y + 1)) = 0 := by
  apply Nat.eq_of_testBit_eq
  intro i
  rw [Nat.testBit_and, Nat.testBit_two_pow_sub_succ h, Nat.zero_testBit]
  cases y.testBit i <;> simp
theorem double_and (a b : Nat) : 2 * a &&& 2 * b = 2 * (a &&& b) := by
  apply Nat.eq_of_testBit_eq
  intro i
  rw [Nat.testBit_and]
  cases i with
  | zero => simp [Nat.testBit_zero]
  | succ i =>
    have e1 : 2 * a / 2 = a := by omega
    have e2 : 2 * b / 2 = b := by omega
    have e3 : 2 * (a &&& b) / 2 = a &&& b := by omega
    rw [Nat.testBit_succ, Nat.testBit_succ, Nat.testBit_succ, e1, e2, e3, Nat.testBit_and]
theorem odd_and (a b : Nat) : (2 * a + 1) &&& (2 * b + 1) = 2 * (a &&& b) + 1 := by
  apply Nat.eq_of_testBit_eq
  intro i
  rw [Nat.testBit_and]
  cases i with
  | zero => simp [Nat.testBit_zero]
  | succ i =>
    have e1 : (2 * a + 1) / 2 = a := by omega
    have e2 : (2 * b + 1) / 2 = b := by omega
    have e3 : (2 * (a &&& b) + 1) / 2 = a &&& b := by omega
    rw [Nat.testBit_succ, Nat.testBit_succ, Nat.testBit_succ, e1, e2, e3, Nat.testBit_and]
/-- x and its own negative meet in the least bit. -/
theorem low_bit : ∀ (n x m : Nat), x < 2 ^ n → x.testBit m = true → (∀ i, i < m → x.testBit i = false) → x &&& (2 ^ n - x) = 2 ^ m
  | 0, x, m, hx, hm, _ => by
    have : x = 0 := by simpa using hx
    subst this; simp at hm
  | n + 1, x, m, hx, hm, hl => by
    rw [Nat.pow_succ] at hx
    cases m with
    | zero =>
      have h1 : x % 2 = 1 := by simpa [Nat.testBit_zero] using hm
      have e1 : x = 2 * (x / 2) + 1 := by omega
      have e2 : 2 ^ (n + 1) - x = 2 * (2 ^ n - (x / 2 + 1)) + 1 := by rw [Nat.pow_succ]; omega
      rw [e2]
      conv => lhs; arg 1; rw [e1]
      rw [odd_and, and_compl n (x / 2) (by omega)]
    | succ m =>
      have h0 := hl 0 (by omega)
      have h1 : x % 2 = 0 := by
        have : ¬ x % 2 = 1 := by simpa [Nat.testBit_zero] using h0
        omega
      have e1 : x = 2 * (x / 2) := by omega
      have e2 : 2 ^ (n + 1) - x = 2 * (2 ^ n - x / 2) := by rw [Nat.pow_succ]; omega
      have ih := low_bit n (x / 2) m (by omega) (by rw [← Nat.testBit_succ]; exact hm) (fun i hi => by rw [← Nat.testBit_succ]; exact hl (i + 1) (by omega))
      rw [e2]
      conv => lhs; arg 1; rw [e1]
      rw [double_and, ih, Nat.pow_succ]; omega
def dbt : List Int := [0, 1, 56, 2, 57, 49, 28, 3, 61, 58, 42, 50, 38, 29, 17, 4, 62, 47, 59, 36, 45, 43, 51, 22, 53, 39, 33, 30, 24, 18, 12, 5, 63, 55, 48, 27, 60, 41, 37, 16, 46, 35, 44, 21, 52, 32, 23, 11, 54, 26, 40, 15, 34, 20, 31, 10, 25, 14, 19, 9, 13, 8, 7, 6]
theorem dbt_at : ∀ m : Fin 64, dbt.getD ((2 ^ m.val * 285870213051353865 % 2 ^ 64) / 2 ^ 58) 0 = (m.val : Int) ∧ (2 ^ m.val * 285870213051353865 % 2 ^ 64) / 2 ^ 58 < 64 := by decide +kernel
/-- The table where its variable lies. -/
def TabAt (w : World) : Prop := 0 < w.heap.size ∧ ∀ j, j < 64 → w.cell? ⟨0, j, none⟩ = some (.int .u8 (dbt.getD j 0))
theorem TabAt.below {w w1 : World} (h : TabAt w) (hb : Below w.heap.size w w1) : TabAt w1 :=
  ⟨Nat.lt_of_lt_of_le h.1 hb.size, fun j hj => (hb.cell (p := ⟨0, j, none⟩) h.1).trans (h.2 j hj)⟩

theorem ntz_walk (f : Nat → Bool) (m : Nat) (hm : m < 64) (h1 : f m = true) (h2 : ∀ i, i < m → f i = false) (w : World) (hT : TabAt w) :
    Calls Tryd.prog 19 #[.int .u64 ((num f 64 : Nat) : Int)] w fun e w' => e = .returned (.int .i64 (m : Nat)) ∧ w = w' := by
  have hl := num_lt f 64
  have hb : (num f 64).testBit m = true := by rw [num_bit]; simp [hm, h1]
  have hpos : 0 < num f 64 := by
    rcases Nat.eq_zero_or_pos (num f 64) with e | e
    · rw [e] at hb; simp at hb
    · exact e
  have hlow := low_bit 64 (num f 64) m hl hb (fun i hi => by rw [num_bit]; simp [h2 i hi])
  have ht := dbt_at ⟨m, hm⟩
  simp only at ht
  obtain ⟨ht1, ht2⟩ := ht
  obtain ⟨ix, hix⟩ : ∃ ix, ix = (2 ^ m * 285870213051353865 % 2 ^ 64) / 2 ^ 58 := ⟨_, rfl⟩
  rw [← hix] at ht1 ht2
  have hcell := hT.2 ix ht2
  rw [ht1] at hcell
  generalize num f 64 = x at *
  have f1 : IntKind.u64.wrap (-(x : Int)) = ((2 ^ 64 - x : Nat) : Int) := by
    simp only [IntKind.wrap, IntKind.signed, IntKind.bits]
    simp
    omega
  have f2 : bits BinOp.and IntKind.u64 (x : Int) ((2 ^ 64 - x : Nat) : Int) = ((2 ^ m : Nat) : Int) := by rw [u64_and _ _ hl (by omega), hlow]
  obtain ⟨P, hP⟩ : ∃ P, P = 2 ^ m * 285870213051353865 % 2 ^ 64 := ⟨_, rfl⟩
  rw [← hP] at hix
  have f3 : IntKind.u64.wrap ((2 : Int) ^ m * 285870213051353865) = (P : Int) := by
    have e : (2 : Int) ^ m * 285870213051353865 = ((2 ^ m * 285870213051353865 : Nat) : Int) := by rw [Int.natCast_mul, Int.natCast_pow]; rfl
    rw [e, hP]
    generalize 2 ^ m * 285870213051353865 = q
    simp only [IntKind.wrap, IntKind.signed, IntKind.bits]
    simp
  have f4 : (P : Int) / 288230376151711744 = (ix : Int) := by rw [hix]; omega
  clear hT hb hlow h1 h2 ht1 hP hix
  go_enter Tryd.func19, Tryd.ntmps19
  go_wp2_with (first | simp only [f1] | simp only [f2] | simp only [f3] | simp only [f4])
  all_goals (go_ret; exact ⟨rfl, rfl⟩)

/-! ### Len64 -/
theorem len_at (x k : Nat) (E : Int) (hE : 0 ≤ E ∧ E ≤ 255) (e : E.toNat = x / 2 ^ k) (hk : 2 ^ k ≤ x) (hx : x < 2 ^ 64) : (k : Int) + Lib.len8 E = (Lib.bitLen x : Int) := by
  rw [Lib.len8_of E hE.1 hE.2, e, Lib.bitLen_shift k x hk hx]; omega
theorem len_low (x : Nat) (E : Int) (hE : 0 ≤ E ∧ E ≤ 255) (e : E.toNat = x) : Lib.len8 E = (Lib.bitLen x : Int) := by
  rw [Lib.len8_of E hE.1 hE.2, e]
theorem tab_fold (s : ByteArray) (h : s = Lib.len8tab) : s = Lib.len8tab := h
theorem bitLen_top (x m : Nat) (h1 : 2 ^ m ≤ x) (h2 : x < 2 ^ (m + 1)) (hm : m < 64) : Lib.bitLen x = m + 1 := by
  have hx : x < 2 ^ 64 := Nat.lt_of_lt_of_le h2 (Nat.pow_le_pow_right (by decide) (by omega))
  rw [Lib.bitLen_shift m x h1 hx]
  have hd : x / 2 ^ m = 1 := by
    rw [Nat.pow_succ] at h2
    exact Nat.div_eq_of_lt_le (by omega) (by omega)
  rw [hd]; rfl
theorem len_get (E : Int) (h : E.toNat < Lib.len8tab.size) : ((Lib.len8tab[E.toNat]'h).toNat : Int) = Lib.len8 E := by
  simp only [Lib.len8, ByteArray.getElem?_lt' _ _ h, Option.getD_some]
set_option maxHeartbeats 4000000 in
set_option maxRecDepth 100000 in
theorem len_go (x : Int) (w : World) (h0 : 0 ≤ x) (h1 : x ≤ 18446744073709551615) : Calls Tryd.prog 20 #[.int .u64 x] w fun e w' => e = .returned (.int .i64 (Lib.bitLen x.toNat)) ∧ w = w' := by
  go_enter Tryd.func20, Tryd.ntmps20
  conv in (ByteArray.mk _) => tactic => exact tab_fold _ (by kernel_rfl)
  go_wp2
  all_goals have hsz := Lib.len8tab_size
  all_goals first
    | (exfalso; omega)
    | (go_ret; refine ⟨congrArg Ending.returned (congrArg (Value.int IntKind.i64) ?_), rfl⟩)
  all_goals have hle := Lib.bitLen_le x.toNat 64 (by decide) (by omega)
  all_goals simp only [len_get, wrap64]
  all_goals first
    | (have h := len_at x.toNat 56 (x / 4294967296 / 65536 / 256) (by omega) (by omega) (by omega) (by omega); omega)
    | (have h := len_at x.toNat 48 (x / 4294967296 / 65536) (by omega) (by omega) (by omega) (by omega); omega)
    | (have h := len_at x.toNat 40 (x / 4294967296 / 256) (by omega) (by omega) (by omega) (by omega); omega)
    | (have h := len_at x.toNat 32 (x / 4294967296) (by omega) (by omega) (by omega) (by omega); omega)
    | (have h := len_at x.toNat 24 (x / 65536 / 256) (by omega) (by omega) (by omega) (by omega); omega)
    | (have h := len_at x.toNat 16 (x / 65536) (by omega) (by omega) (by omega) (by omega); omega)
    | (have h := len_at x.toNat 8 (x / 256) (by omega) (by omega) (by omega) (by omega); omega)
    | (have h := len_low x.toNat x (by omega) (by omega); omega)
theorem len_walk (x m : Nat) (h1 : 2 ^ m ≤ x) (h2 : x < 2 ^ (m + 1)) (hm : m < 64) (w : World) : Calls Tryd.prog 20 #[.int .u64 (x : Int)] w fun e w' => e = .returned (.int .i64 ((m + 1 : Nat) : Int)) ∧ w = w' := by
  have hx : x < 2 ^ 64 := Nat.lt_of_lt_of_le h2 (Nat.pow_le_pow_right (by decide) (by omega))
  rw [← bitLen_top x m h1 h2 hm]
  have h := len_go (x : Int) w (by omega) (by omega)
  rw [Int.toNat_natCast] at h
  exact h
end Go.Proofs.YthhhcfipmeganaaDoor.Rd
