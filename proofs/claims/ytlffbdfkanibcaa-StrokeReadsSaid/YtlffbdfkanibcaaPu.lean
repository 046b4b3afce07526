/-
  The walks of Turn, Move, Len, Low, of and SamePoint on whole numbers. No condition beyond the numbers' bounds.
-/
import Derived.Test.YtlffbdfkanibcaaPt
namespace Go.Proofs.Ytlffbdfkanibcaa.Pt
open Fl
set_option linter.unusedSimpArgs false
set_option linter.unusedVariables false

theorem prod_abs {a b : Int} {m n : Nat} (ha : a.natAbs ≤ m) (hb : b.natAbs ≤ n) : (a * b).natAbs ≤ m * n := by
  rw [Int.natAbs_mul]; exact Nat.mul_le_mul ha hb

theorem mul_bits (a b c d : Int) (m : Nat) (hm : m * m < 2 ^ 51) (ha : a.natAbs ≤ m) (hb : b.natAbs ≤ m) (hc : c.natAbs ≤ m) (hd : d.natAbs ≤ m) :
    ∃ re im, cMulBits (I a) (I b) (I c) (I d) = some (re, im) ∧ Is re (a * c - b * d) ∧ Is im (a * d + b * c) := by
  have hmm : m < 2 ^ 53 := by
    by_cases h : m = 0
    · omega
    · have : m * 1 ≤ m * m := Nat.mul_le_mul_left m (by omega)
      omega
  have p1 := prod_abs ha hc
  have p2 := prod_abs hb hd
  have p3 := prod_abs ha hd
  have p4 := prod_abs hb hc
  obtain ⟨ac, e1, i1⟩ := mul_is (.I a) (.I c) (by omega) (by omega) (by omega)
  obtain ⟨bd, e2, i2⟩ := mul_is (.I b) (.I d) (by omega) (by omega) (by omega)
  obtain ⟨ad, e3, i3⟩ := mul_is (.I a) (.I d) (by omega) (by omega) (by omega)
  obtain ⟨bc, e4, i4⟩ := mul_is (.I b) (.I c) (by omega) (by omega) (by omega)
  obtain ⟨re, e5, i5⟩ := sub_is i1 i2 (by omega) (by omega) (by omega)
  obtain ⟨im, e6, i6⟩ := add_is i3 i4 (by omega) (by omega) (by omega)
  refine ⟨re, im, ?_, i5, i6⟩
  unfold cMulBits
  have f1 : floatBits .mul .f64 (I a) (I c) = some ac := e1
  have f2 : floatBits .mul .f64 (I b) (I d) = some bd := e2
  have f3 : floatBits .mul .f64 (I a) (I d) = some ad := e3
  have f4 : floatBits .mul .f64 (I b) (I c) = some bc := e4
  have f5 : floatBits .sub .f64 ac bd = some re := e5
  have f6 : floatBits .add .f64 ad bc = some im := e6
  simp only [f1, f2, f3, f4, f5, f6, Option.bind_some]

theorem Turn_in (a b c d : Int) (ha : In a) (hb : In b) (hc : In c) (hd : In d) (e f : Int) (hee : e = a * c - b * d) (hff : f = a * d + b * c) (he : In e) (hf : In f) (w : World) :
    Calls Try.prog 10 #[C a b, C c d] w fun r w' => r = .returned (.tuple #[C e f, .bool true]) ∧ w' = w := by
  obtain ⟨re, im, h, i1, i2⟩ := mul_bits a b c d 32768 (by decide) (by unfold In at ha; omega) (by unfold In at hb; omega) (by unfold In at hc; omega) (by unfold In at hd; omega)
  rw [← hee] at i1
  rw [← hff] at i2
  clear hee hff
  have hop : ∀ t w, (binOp .mul t (.complex .f64 (I a) (I b)) (.complex .f64 (I c) (I d))).run Try.prog w = .ok (.complex .f64 re im) w := fun t w => run_complex_mul w t _ _ _ _ re im h
  go_enter Try.func10, Try.ntmps10
  go_wp2_with (first | simp only [hop] | (go_at_call 26; (with_reducible refine (made_in a b c d e f re im ha hb hc hd he hf i1 i2 _).mono ?_); rintro e w' ⟨rfl, rfl⟩))
  all_goals (go_ret2; exact ⟨rfl, rfl⟩)

theorem May_out (w : World) : Calls Try.prog 27 #[C 40000 0] w fun e w' => e = .returned (.bool false) ∧ w' = w := by
  go_enter Try.func27, Try.ntmps27
  go_wp2_with (go_at_call 41; (with_reducible refine (whole_out 40000 (by decide) (by decide) _).mono ?_); rintro e w' ⟨rfl, rfl⟩)
  all_goals (go_ret; exact ⟨rfl, rfl⟩)

theorem Turn_out (w : World) : Calls Try.prog 10 #[C 40000 0, C 1 0] w fun r w' => r = .returned (.tuple #[.complex .f64 0 0, .bool false]) ∧ w' = w := by
  obtain ⟨re, im, h, i1, i2⟩ := mul_bits 40000 0 1 0 40000 (by decide) (by decide) (by decide) (by decide) (by decide)
  have hop : ∀ t w, (binOp .mul t (.complex .f64 (I 40000) (I 0)) (.complex .f64 (I 1) (I 0))).run Try.prog w = .ok (.complex .f64 re im) w := fun t w => run_complex_mul w t _ _ _ _ re im h
  have hm : ∀ w, Calls Try.prog 26 #[C 40000 0, C 1 0, .complex .f64 re im] w fun r w' => r = .returned (.tuple #[.complex .f64 0 0, .bool false]) ∧ w' = w := by
    intro w
    go_enter Try.func26, Try.ntmps26
    go_wp2_with (first
      | (go_at_call 40; (with_reducible refine (clean_walk re im _ _ i1 i2 (by decide) (by decide) _).mono ?_); rintro e w' ⟨rfl, rfl⟩)
      | (go_at_call 27; (with_reducible refine (May_out _).mono ?_); rintro e w' ⟨rfl, rfl⟩))
    all_goals (go_ret2; exact ⟨rfl, rfl⟩)
  go_enter Try.func10, Try.ntmps10
  go_wp2_with (first | simp only [hop] | (go_at_call 26; (with_reducible refine (hm _).mono ?_); rintro e w' ⟨rfl, rfl⟩))
  all_goals (go_ret2; exact ⟨rfl, rfl⟩)

theorem Move_in (a b c d : Int) (ha : In a) (hb : In b) (hc : In c) (hd : In d) (e f : Int) (hee : e = a + c) (hff : f = b + d) (he : In e) (hf : In f) (w : World) :
    Calls Try.prog 17 #[C a b, C c d] w fun r w' => r = .returned (.tuple #[C e f, .bool true]) ∧ w' = w := by
  have e1 := add_I (a := a) (b := c) ha.abs hc.abs (by unfold In at ha hc; omega)
  have e2 := add_I (a := b) (b := d) hb.abs hd.abs (by unfold In at hb hd; omega)
  rw [← hee] at e1
  rw [← hff] at e2
  clear hee hff
  have f1 : floatBits .add .f64 (I a) (I c) = some (I e) := e1
  have f2 : floatBits .add .f64 (I b) (I d) = some (I f) := e2
  have h : cSumBits .add .f64 (I a) (I b) (I c) (I d) = some (I e, I f) := by
    unfold cSumBits; simp only [f1, f2, Option.bind_some]
  have hop : ∀ t w, (binOp .add t (.complex .f64 (I a) (I b)) (.complex .f64 (I c) (I d))).run Try.prog w = .ok (.complex .f64 (I e) (I f)) w := fun t w => run_complex_sum w .add (Or.inl rfl) t .f64 _ _ _ _ _ _ h
  go_enter Try.func17, Try.ntmps17
  go_wp2_with (first | simp only [hop] | (go_at_call 26; (with_reducible refine (made_in a b c d e f (I e) (I f) ha hb hc hd he hf (.I e) (.I f) _).mono ?_); rintro e w' ⟨rfl, rfl⟩))
  all_goals (go_ret2; exact ⟨rfl, rfl⟩)

/-- A number's square is its own word: a product with itself is not negative. -/
theorem sq_I (a : Int) (m : Nat) (ha : a.natAbs ≤ m) (hm : m * m < 2 ^ 53) (hm' : m < 2 ^ 53) : Ieee.double.mul (I a) (I a) = some (I (a * a)) := by
  have p1 := prod_abs ha ha
  obtain ⟨r, e, i⟩ := mul_is (.I a) (.I a) (by omega) (by omega) (by omega)
  rw [e]
  rcases i with h | ⟨h0, h⟩
  · rw [h]
  · have : a = 0 := by
      rcases Int.mul_eq_zero.1 h0 with h | h <;> exact h
    subst this
    have : Ieee.double.mul (I 0) (I 0) = some (I 0) := by decide +kernel
    rw [this] at e
    cases e; rfl

theorem Len_in (a b c d : Int) (ha : In a) (hb : In b) (hc : In c) (hd : In d) (r : Nat) (hr : Ieee.double.sqrt (I ((a - c) * (a - c) + (b - d) * (b - d))) = some r) (w : World) :
    Calls Try.prog 11 #[C a b, C c d] w fun e w' => e = .returned (.float .f64 r) ∧ w' = w := by
  have h1 : (a - c).natAbs ≤ 65535 := by unfold In at ha hc; omega
  have h2 : (b - d).natAbs ≤ 65535 := by unfold In at hb hd; omega
  have e1 := sub_I (a := a) (b := c) ha.abs hc.abs (by omega)
  have e2 := sub_I (a := b) (b := d) hb.abs hd.abs (by omega)
  have e3 := sq_I (a - c) 65535 h1 (by decide) (by decide)
  have e4 := sq_I (b - d) 65535 h2 (by decide) (by decide)
  have p1 := prod_abs h1 h1
  have p2 := prod_abs h2 h2
  have e5 := add_I (a := (a - c) * (a - c)) (b := (b - d) * (b - d)) (by omega) (by omega) (by omega)
  generalize (a - c) * (a - c) + (b - d) * (b - d) = N at *
  generalize (a - c) * (a - c) = X at *
  generalize (b - d) * (b - d) = Y at *
  generalize a - c = x at *
  generalize b - d = y at *
  have f1 : floatBits .sub .f64 (I a) (I c) = some (I x) := e1
  have f2 : floatBits .sub .f64 (I b) (I d) = some (I y) := e2
  have f3 : floatBits .mul .f64 (I x) (I x) = some (I X) := e3
  have f4 : floatBits .mul .f64 (I y) (I y) = some (I Y) := e4
  have f5 : floatBits .add .f64 (I X) (I Y) = some (I N) := e5
  have h : cSumBits .sub .f64 (I a) (I b) (I c) (I d) = some (I x, I y) := by
    unfold cSumBits; simp only [f1, f2, Option.bind_some]
  clear e1 e2 e3 e4 e5 p1 p2 h1 h2
  have hop : ∀ t w, (binOp .sub t (.complex .f64 (I a) (I b)) (.complex .f64 (I c) (I d))).run Try.prog w = .ok (.complex .f64 (I x) (I y)) w := fun t w => run_complex_sum w .sub (Or.inr rfl) t .f64 _ _ _ _ _ _ h
  have o3 : ∀ t w, (binOp .mul t (.float .f64 (I x)) (.float .f64 (I x))).run Try.prog w = .ok (.float .f64 (I X)) w := fun t w => run_float_arith w .mul t .f64 _ _ _ f3
  have o4 : ∀ t w, (binOp .mul t (.float .f64 (I y)) (.float .f64 (I y))).run Try.prog w = .ok (.float .f64 (I Y)) w := fun t w => run_float_arith w .mul t .f64 _ _ _ f4
  have o5 : ∀ t w, (binOp .add t (.float .f64 (I X)) (.float .f64 (I Y))).run Try.prog w = .ok (.float .f64 (I N)) w := fun t w => run_float_arith w .add t .f64 _ _ _ f5
  have hs : ∀ w, Calls Try.prog 28 #[.float .f64 (I N)] w fun e w' => e = .returned (.float .f64 r) ∧ w' = w := by
    intro w
    have h42 := run42 (I N) r hr
    go_enter Try.func28, Try.ntmps28
    go_wp2_with (simp only [h42])
    all_goals (go_ret; exact ⟨rfl, rfl⟩)
  go_enter Try.func11, Try.ntmps11
  go_wp2_with (first
    | (simp only [hop]) | (simp only [o3]) | (simp only [o4]) | (simp only [o5])
    | (go_at_call 27; (with_reducible refine (May_in a b ha hb _).mono ?_); rintro e w' ⟨rfl, rfl⟩)
    | (go_at_call 27; (with_reducible refine (May_in c d hc hd _).mono ?_); rintro e w' ⟨rfl, rfl⟩)
    | (go_at_call 28; (with_reducible refine (hs _).mono ?_); rintro e w' ⟨rfl, rfl⟩))
  all_goals (go_ret; exact ⟨rfl, rfl⟩)

theorem SamePoint_same (a b : Nat) (w : World) :
    Calls Try.prog 12 #[.complex .f64 a b, .complex .f64 a b] w fun e w' => e = .returned (.bool true) ∧ w' = w := by
  go_enter Try.func12, Try.ntmps12
  go_wp2
  all_goals (go_ret; first | exact ⟨rfl, rfl⟩ | simp_all)

theorem low_fact (x n : Int) (hn : 0 < n) (hn' : n < 2 ^ 62) : 0 ≤ RowKit.wrap64 ((IntKind.u64.wrap x).tmod n) ∧ RowKit.wrap64 ((IntKind.u64.wrap x).tmod n) < n := by
  have h0 : 0 ≤ IntKind.u64.wrap x := by
    show 0 ≤ IntKind.wrap .u64 x
    simp only [IntKind.wrap, IntKind.signed, IntKind.bits]
    simp
    omega
  rw [Int.tmod_eq_emod_of_nonneg h0]
  have h1 := Int.emod_nonneg (IntKind.u64.wrap x) (Int.ne_of_gt hn)
  have h2 := Int.emod_lt_of_pos (IntKind.u64.wrap x) hn
  generalize IntKind.u64.wrap x % n = y at *
  have h3 : RowKit.wrap64 y = y := by unfold RowKit.wrap64; omega
  rw [h3]
  exact ⟨h1, h2⟩

theorem Low_walk (x n : Int) (hn : 0 < n) (hn' : n < 2 ^ 62) (w : World) :
    Calls Try.prog 15 #[.int .i64 x, .int .i64 n] w fun e w' => ∃ v : Int, 0 ≤ v ∧ v < n ∧ e = .returned (.int .i64 v) ∧ w' = w := by
  go_enter Try.func15, Try.ntmps15
  go_wp2
  all_goals (go_ret; exact ⟨_, (low_fact x n hn hn').1, (low_fact x n hn hn').2, rfl, rfl⟩)

theorem float_I (n : Int) : floatOfInt .f64 n = I n := rfl

theorem of_walk (x y m : Int) (hm : 0 < m) (hm' : m ≤ 32767) (w : World) :
    Calls Try.prog 9 #[.int .i64 x, .int .i64 y, .int .i64 m] w fun e w' => ∃ a b : Int, -m ≤ a ∧ a ≤ m ∧ -m ≤ b ∧ b ≤ m ∧ e = .returned (C a b) ∧ w' = w := by
  have hw1 : RowKit.wrap64 (2 * m) = 2 * m := by unfold RowKit.wrap64; omega
  have hw2 : RowKit.wrap64 (2 * m + 1) = 2 * m + 1 := by unfold RowKit.wrap64; omega
  have u3 := Try.underlying3
  have u26 := Try.underlying26
  go_enter Try.func9, Try.ntmps9
  go_wp2_with (first
    | (go_at_call 15; (try simp only [hw1, hw2]); (with_reducible refine (Low_walk x (2 * m + 1) (by omega) (by omega) _).mono ?_); rintro e w' ⟨v, hv1, hv2, rfl, rfl⟩)
    | (go_at_call 15; (try simp only [hw1, hw2]); (with_reducible refine (Low_walk y (2 * m + 1) (by omega) (by omega) _).mono ?_); rintro e w' ⟨u, hu1, hu2, rfl, rfl⟩))
  all_goals (go_ret; exact ⟨v - m, u - m, by omega, by omega, by omega, by omega, rfl, rfl⟩)
end Go.Proofs.Ytlffbdfkanibcaa.Pt
