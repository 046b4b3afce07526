/-
  The walks of package point's functions on whole numbers: what each call returns. No condition beyond the numbers' bounds.
-/
import Derived.Test.YthhhcfipmeganaaDoorProg
import Derived.Test.YthhhcfipmeganaaDoorFd
import Derived.Tactics
import Derived.Tactics2
import Derived.WalkKit
import Derived.WalkLawsBesides
import Derived.LoopTactic
import Derived.RegionTactic
import Derived.Deep.QuietTactic
import Derived.BigQuiet
import Derived.Below
namespace Go.Proofs.YthhhcfipmeganaaDoor.Ra
open Fl Fr
open Go.RowKit (Below)
set_option linter.unusedSimpArgs false
set_option linter.unusedVariables false

@[go_sem] theorem run29 (a : Nat) (w : World) : (callFunc 33 #[.float .f64 a]).run Tryd.prog w = .ok (.value (.int .u64 a)) w := by kernel_rfl
@[go_sem] theorem run30 (a : Int) (w : World) : (callFunc 32 #[.int .u64 a]).run Tryd.prog w = .ok (.value (.float .f64 a.toNat)) w := by kernel_rfl
theorem run56 (x : Nat) (s : Bool) (m : Nat) (p : Int) (h : Ieee.double.read x = .number s m p) (w : World) :
    (callFunc 45 #[.float .f64 x]).run Tryd.prog w = .ok (.value (.float .f64 (Ieee.double.write (Ieee.Datum.integral .zero (.number s m p))))) w := by
  have h1 : (callFunc 45 #[.float .f64 x]).run Tryd.prog w = (Sem.run Tryd.prog (do
      let v ← (match Ieee.double.read x with
        | .nan s t =>
          if Ieee.double.quiet t = t then pure (.float .f64 x) else do
          let kept ← choose (.extern "math.Floor,Ceil,Trunc,RoundToEven.signallingNaN kept" 2)
          pure (.float .f64 (if kept == 1 then x else FloatKind.f64.encode (.nan s (Ieee.double.quiet t))))
        | d => pure (.float .f64 (FloatKind.f64.encode (d.integral .zero))))
      pure (Next.value v)) w) := by kernel_rfl
  rw [h1, h]; rfl

theorem trunc_walk (x : Nat) (s : Bool) (m : Nat) (p : Int) (h : Ieee.double.read x = .number s m p) (w : World) :
    Calls Tryd.prog 38 #[.float .f64 x] w fun e w' => e = .returned (.float .f64 (Ieee.double.write (Ieee.Datum.integral .zero (.number s m p)))) ∧ w' = w := by
  have h1 := run56 x s m p h
  go_enter Tryd.func38, Tryd.ntmps38
  go_wp2_with (simp only [h1])
  all_goals (go_ret; exact ⟨rfl, rfl⟩)

theorem signbit0_walk (w : World) : Calls Tryd.prog 39 #[.float .f64 0] w fun e w' => e = .returned (.bool false) ∧ w' = w := by
  go_enter Tryd.func39, Tryd.ntmps39
  go_wp2
  all_goals (go_ret; exact ⟨rfl, rfl⟩)

theorem c_low : (13898108450065350656 : Nat) = I (-32768) := by decide +kernel
theorem c_high : (4674736138332667904 : Nat) = I 32767 := by decide +kernel
theorem c_zero : (0 : Nat) = I 0 := by decide +kernel

theorem ord (a b : Int) (ha : a.natAbs < 2 ^ 53) (hb : b.natAbs < 2 ^ 53) : FloatKind.f64.format.order (I a) (I b) = some (compare a b) := order_is (.I a) (.I b) ha hb

theorem cmp_lt {a b : Int} (h : a < b) : compare a b = .lt := by simp [compare, compareOfLessAndEq, h]
theorem cmp_eq (a : Int) : compare a a = .eq := by simp [compare, compareOfLessAndEq]
theorem cmp_gt {a b : Int} (h : b < a) : compare a b = .gt := by
  have h1 : ¬ a < b := by omega
  have h2 : ¬ a = b := by omega
  simp [compare, compareOfLessAndEq, h1, h2]
theorem ge_of {a b : Int} (h : b ≤ a) : ((some (compare a b) == some Ordering.gt) || (some (compare a b) == some Ordering.eq)) = true := by
  rcases Int.lt_or_eq_of_le h with h | h
  · rw [cmp_gt h]; rfl
  · subst h; rw [cmp_eq]; rfl
theorem le_of {a b : Int} (h : a ≤ b) : ((some (compare a b) == some Ordering.lt) || (some (compare a b) == some Ordering.eq)) = true := by
  rcases Int.lt_or_eq_of_le h with h | h
  · rw [cmp_lt h]; rfl
  · subst h; rw [cmp_eq]; rfl

theorem whole_in (n : Int) (h1 : -32768 ≤ n) (h2 : n ≤ 32767) (w : World) : Calls Tryd.prog 31 #[.float .f64 (I n)] w fun e w' => e = .returned (.bool true) ∧ w' = w := by
  have hn : n.natAbs < 2 ^ 53 := by omega
  obtain ⟨s, m, p, hr, hi⟩ := trunc_is (.I n) hn
  have ht := trunc_walk (I n) s m p hr
  have o1 : FloatKind.f64.format.order (I n) 13898108450065350656 = some (compare n (-32768)) := by rw [c_low]; exact ord _ _ hn (by decide)
  have o2 : FloatKind.f64.format.order (I n) 4674736138332667904 = some (compare n 32767) := by rw [c_high]; exact ord _ _ hn (by decide)
  have o3 : FloatKind.f64.format.order (I n) 0 = some (compare n 0) := by
    have := ord n 0 hn (by decide)
    rwa [← c_zero] at this
  have o4 : FloatKind.f64.format.order (I n) (Ieee.double.write (Ieee.Datum.integral .zero (.number s m p))) = some .eq := by
    have := order_is (.I n) hi hn hn
    rw [cmp_eq] at this; exact this
  generalize (Ieee.double.write (Ieee.Datum.integral .zero (.number s m p))) = y at ht o4
  have e1 : ((FloatKind.f64.format.order (I n) 13898108450065350656 == some Ordering.gt) || (FloatKind.f64.format.order (I n) 13898108450065350656 == some Ordering.eq)) = true := by rw [o1]; exact ge_of h1
  have e2 : ((FloatKind.f64.format.order (I n) 4674736138332667904 == some Ordering.lt) || (FloatKind.f64.format.order (I n) 4674736138332667904 == some Ordering.eq)) = true := by rw [o2]; exact le_of h2
  have e4 : (FloatKind.f64.format.order (I n) y == some Ordering.eq) = true := by rw [o4]; rfl
  clear o1 o2 o4
  by_cases h0 : n = 0
  · subst h0
    have e3 : (FloatKind.f64.format.order (I 0) 0 != some Ordering.eq) = false := by rw [o3, cmp_eq]; rfl
    clear o3
    rw [I_zero] at *
    go_enter Tryd.func31, Tryd.ntmps31
    go_wp2_with (first | (go_at_call 38; (with_reducible refine (ht _).mono ?_); rintro e w' ⟨rfl, rfl⟩) | (go_at_call 39; (with_reducible refine (signbit0_walk _).mono ?_); rintro e w' ⟨rfl, rfl⟩))
    all_goals (go_ret; exact ⟨rfl, rfl⟩)
  · have e3 : (FloatKind.f64.format.order (I n) 0 != some Ordering.eq) = true := by
      rw [o3]
      rcases Int.lt_or_gt_of_ne h0 with h | h
      · rw [cmp_lt h]; rfl
      · rw [cmp_gt h]; rfl
    clear o3
    go_enter Tryd.func31, Tryd.ntmps31
    go_wp2_with (first | (go_at_call 38; (with_reducible refine (ht _).mono ?_); rintro e w' ⟨rfl, rfl⟩))
    all_goals (go_ret; exact ⟨rfl, rfl⟩)

theorem whole_out (n : Int) (hn : n.natAbs < 2 ^ 53) (h : 32767 < n) (w : World) : Calls Tryd.prog 31 #[.float .f64 (I n)] w fun e w' => e = .returned (.bool false) ∧ w' = w := by
  have o1 : FloatKind.f64.format.order (I n) 13898108450065350656 = some (compare n (-32768)) := by rw [c_low]; exact ord _ _ hn (by decide)
  have o2 : FloatKind.f64.format.order (I n) 4674736138332667904 = some (compare n 32767) := by rw [c_high]; exact ord _ _ hn (by decide)
  have e1 : ((FloatKind.f64.format.order (I n) 13898108450065350656 == some Ordering.gt) || (FloatKind.f64.format.order (I n) 13898108450065350656 == some Ordering.eq)) = true := by rw [o1]; exact ge_of (by omega)
  have e2 : ((FloatKind.f64.format.order (I n) 4674736138332667904 == some Ordering.lt) || (FloatKind.f64.format.order (I n) 4674736138332667904 == some Ordering.eq)) = false := by rw [o2, cmp_gt h]; rfl
  clear o1 o2
  go_enter Tryd.func31, Tryd.ntmps31
  go_wp2
  all_goals (go_ret; exact ⟨rfl, rfl⟩)

/-- In the bounds of a point's part. -/
abbrev In (n : Int) : Prop := -32768 ≤ n ∧ n ≤ 32767
theorem In.abs {n : Int} (h : In n) : n.natAbs < 2 ^ 53 := by unfold In at h; omega

/-- A complex value of two whole numbers. -/
abbrev C (a b : Int) : Value := .complex .f64 (I a) (I b)

theorem May_in (a b : Int) (ha : In a) (hb : In b) (w : World) : Calls Tryd.prog 24 #[C a b] w fun e w' => e = .returned (.bool true) ∧ w' = w := by
  go_enter Tryd.func24, Tryd.ntmps24
  go_wp2_with (first | (go_at_call 31; (with_reducible refine (whole_in a ha.1 ha.2 _).mono ?_); rintro e w' ⟨rfl, rfl⟩) | (go_at_call 31; (with_reducible refine (whole_in b hb.1 hb.2 _).mono ?_); rintro e w' ⟨rfl, rfl⟩))
  all_goals (go_ret; exact ⟨rfl, rfl⟩)

theorem prod_abs {a b : Int} {m n : Nat} (ha : a.natAbs ≤ m) (hb : b.natAbs ≤ n) : (a * b).natAbs ≤ m * n := by
  rw [Int.natAbs_mul]; exact Nat.mul_le_mul ha hb

theorem SamePoint_same (a b : Nat) (w : World) :
    Calls Tryd.prog 30 #[.complex .f64 a b, .complex .f64 a b] w fun e w' => e = .returned (.bool true) ∧ w' = w := by
  go_enter Tryd.func30, Tryd.ntmps30
  go_wp2
  all_goals (go_ret; first | exact ⟨rfl, rfl⟩ | simp_all)

theorem low_fact (x n : Int) (hn : 0 < n) (hn' : n < 2 ^ 62) : 0 ≤ RowKit.wrap64 ((IntKind.u64.wrap x).tmod n) ∧ RowKit.wrap64 ((IntKind.u64.wrap x).tmod n) < n := by
  have h0 : 0 ≤ IntKind.u64.wrap x := by
    show 0 ≤ IntKind.wrap .u64 x
    simp only [IntKind.wrap, IntKind.signed, IntKind.bits]
    simp
    omega
  rw [Int.tmod_eq_emod_of_nonneg h0]
  have h1 := Int.emod_nonneg (IntKind.u64.wrap x) (Int.ne_of_gt hn)
  have h2 := Int.emod_lt_of_pos (IntKind.u64.wrap x) hn
  generalize IntKind.u64.wrap x % n = y at *
  have h3 : RowKit.wrap64 y = y := by unfold RowKit.wrap64; omega
  rw [h3]
  exact ⟨h1, h2⟩

theorem Low_walk (x n : Int) (hn : 0 < n) (hn' : n < 2 ^ 62) (w : World) :
    Calls Tryd.prog 13 #[.int .i64 x, .int .i64 n] w fun e w' => ∃ v : Int, 0 ≤ v ∧ v < n ∧ e = .returned (.int .i64 v) ∧ w' = w := by
  go_enter Tryd.func13, Tryd.ntmps13
  go_wp2
  all_goals (go_ret; exact ⟨_, (low_fact x n hn hn').1, (low_fact x n hn hn').2, rfl, rfl⟩)

theorem float_I (n : Int) : floatOfInt .f64 n = I n := rfl

theorem run_max_I (ts : Array TypeId) (t : TypeId) (a b : Int) (ha : a.natAbs < 2 ^ 53) (hb : b.natAbs < 2 ^ 53) (w : World) :
    (Builtin.max_ ts t #[.float .f64 (I a), .float .f64 (I b)]).run Tryd.prog w = .ok (.float .f64 (I (max a b))) w := by
  have ho := ord a b ha hb
  rcases Int.lt_trichotomy a b with c | c | c
  · rw [cmp_lt c] at ho
    rw [Int.max_eq_right (by omega)]
    simp [Builtin.max_, Builtin.max2, ho]
  · subst c
    rw [cmp_eq] at ho
    rw [Int.max_self]
    simp [Builtin.max_, Builtin.max2, ho]
  · rw [cmp_gt c] at ho
    rw [Int.max_eq_left (by omega)]
    simp [Builtin.max_, Builtin.max2, ho]

theorem bel_step {w W w2 : World} (h : Below w.heap.size w W) (k : Below W.heap.size W w2) : Below w.heap.size w w2 :=
  h.trans ⟨k.os, k.tape, k.output, k.size, fun i hi => k.block i (Nat.lt_of_lt_of_le hi h.size)⟩
theorem bel_alloc {w W : World} (h : Below w.heap.size w W) (o : Obj) : Below w.heap.size w (W.alloc o) := h.alloc h.size o

/-- A fact laid aside. -/
structure Kept (p : Prop) : Prop where
  out : p

theorem andNot_top (x : Nat) (hx : x < 2 ^ 64) : (bits BinOp.andNot IntKind.u64 (x : Int) 9223372036854775808).toNat = x % 2 ^ 63 := by
  have h1 : (BitVec.ofInt 64 (x : Int) &&& ~~~(BitVec.ofInt 64 9223372036854775808)).toNat = x % 2 ^ 63 := by
    have e : ~~~(BitVec.ofInt 64 9223372036854775808) = BitVec.ofNat 64 (2 ^ 63 - 1) := by decide
    rw [e, BitVec.toNat_and, BitVec.toNat_ofNat, BitVec.ofInt_natCast, BitVec.toNat_ofNat, Nat.mod_eq_of_lt hx, Nat.mod_eq_of_lt (by decide : 2 ^ 63 - 1 < 2 ^ 64), Nat.and_two_pow_sub_one_eq_mod]
  have h2 : bits BinOp.andNot IntKind.u64 (x : Int) 9223372036854775808 = IntKind.u64.wrap ((BitVec.ofInt 64 (x : Int) &&& ~~~(BitVec.ofInt 64 9223372036854775808)).toNat : Int) := rfl
  rw [h2, h1]
  have h3 : x % 2 ^ 63 < 2 ^ 63 := Nat.mod_lt _ (by decide)
  generalize x % 2 ^ 63 = y at *
  have h4 : IntKind.u64.wrap (y : Int) = y := by
    simp only [IntKind.wrap, IntKind.signed, IntKind.bits]
    simp
    omega
  rw [h4]; rfl

theorem Abs_walk (x : Nat) (hx : x < 2 ^ 64) (w : World) :
    Calls Tryd.prog 25 #[.float .f64 x] w fun e w' => e = .returned (.float .f64 (x % 2 ^ 63)) ∧ w' = w := by
  have h := andNot_top x hx
  go_enter Tryd.func25, Tryd.ntmps25
  go_wp2
  all_goals (go_ret; refine ⟨?_, rfl⟩; rw [← h]; rfl)


theorem abs_I (n : Int) (h : n.natAbs < 2 ^ 53) : I n % 2 ^ 63 = I (n.natAbs : Int) := by
  by_cases h0 : n = 0
  · subst h0; decide +kernel
  · obtain ⟨R, hR, e1, e2⟩ := I_word n h0 h
    by_cases c : n < 0
    · have e3 : ((n.natAbs : Nat) : Int) = -n := by omega
      have d1 : decide (n < 0) = true := decide_eq_true c
      have d2 : decide (-n < 0) = false := decide_eq_false (by omega)
      rw [e3, e1, e2, d1, d2]
      unfold Ieee.Format.word
      rw [sign_d]
      simp only [Bool.false_eq_true, if_false, if_true]
      omega
    · have e3 : ((n.natAbs : Nat) : Int) = n := by omega
      have d1 : decide (n < 0) = false := decide_eq_false c
      rw [e3, e1, d1]
      unfold Ieee.Format.word
      simp only [Bool.false_eq_true, if_false]
      omega
theorem Abs_I (n : Int) (h : n.natAbs < 2 ^ 53) (w : World) :
    Calls Tryd.prog 25 #[.float .f64 (I n)] w fun e w' => e = .returned (.float .f64 (I (n.natAbs : Int))) ∧ w' = w := by
  rw [← abs_I n h]
  exact Abs_walk (I n) (I_lt n) w

/-- Times a number above nought the word is the number's own. -/
theorem mul_I (a b : Int) (hb0 : 0 < b) (ha : a.natAbs < 2 ^ 53) (hb : b.natAbs < 2 ^ 53) (hab : (a * b).natAbs < 2 ^ 53) : Ieee.double.mul (I a) (I b) = some (I (a * b)) := by
  by_cases h0 : a = 0
  · subst h0
    rw [Int.zero_mul]
    have r2 := (read_I b (by omega) hb).read
    have r1 : Ieee.double.read (I 0) = .number false 0 (-1074) := by decide +kernel
    rw [decide_eq_false (show ¬ b < 0 by omega)] at r2
    unfold Ieee.Format.mul
    rw [r1, r2]
    simp only [Ieee.Datum.product, Nat.zero_mul, Option.map_some, Bool.xor_false, Ieee.Format.write, Ieee.Format.nearest, if_true]
    rw [I_zero]
    decide +kernel
  · obtain ⟨r, e, i⟩ := mul_is (.I a) (.I b) ha hb hab
    rw [e]
    rcases i with h | ⟨hz, _⟩
    · rw [h]
    · exfalso
      rcases Int.mul_eq_zero.1 hz with h | h <;> omega

theorem floor_walk (x : Nat) (s : Bool) (m : Nat) (p : Int) (h : Ieee.double.read x = .number s m p) (w : World) :
    Calls Tryd.prog 34 #[.float .f64 x] w fun e w' => e = .returned (.float .f64 (Ieee.double.write (Ieee.Datum.integral .down (.number s m p)))) ∧ w' = w := by
  have h1 : ∀ w, (callFunc 40 #[.float .f64 x]).run Tryd.prog w = .ok (.value (.float .f64 (Ieee.double.write (Ieee.Datum.integral .down (.number s m p))))) w := by
    intro w
    have h1 : (callFunc 40 #[.float .f64 x]).run Tryd.prog w = (Sem.run Tryd.prog (do
        let v ← (match Ieee.double.read x with
          | .nan s t =>
            if Ieee.double.quiet t = t then pure (.float .f64 x) else do
            let kept ← choose (.extern "math.Floor,Ceil,Trunc,RoundToEven.signallingNaN kept" 2)
            pure (.float .f64 (if kept == 1 then x else FloatKind.f64.encode (.nan s (Ieee.double.quiet t))))
          | d => pure (.float .f64 (FloatKind.f64.encode (d.integral .down))))
        pure (Next.value v)) w) := by kernel_rfl
    rw [h1, h]; rfl
  go_enter Tryd.func34, Tryd.ntmps34
  go_wp2_with (simp only [h1])
  all_goals (go_ret; exact ⟨rfl, rfl⟩)

theorem quo_floor (a b : Int) (hb0 : 0 < b) (ha : a.natAbs < 2 ^ 21) (hb : b.natAbs < 2 ^ 12) :
    ∃ x, floatBits .quo .f64 (I a) (I b) = some x ∧ ∀ w, Calls Tryd.prog 34 #[.float .f64 x] w fun e w' => e = .returned (.float .f64 (I (a / b))) ∧ w' = w := by
  obtain ⟨x, s, m, p, h1, h2, h3⟩ := Fd.div_floor a b hb0 ha hb
  refine ⟨x, h1, fun w => ?_⟩
  rw [← h3]
  exact floor_walk x s m p h2 w

theorem c_two : (4611686018427387904 : Nat) = I 2 := by decide +kernel
theorem way_walk (d k n : Int) (hd : d.natAbs ≤ 1000) (hk : 1 ≤ k) (hkn : k ≤ n) (hn : n ≤ 1000) (w : World) (hs : Kept (2 * d * k + n ≤ 2000000 ∧ -2000000 ≤ 2 * d * k + n ∧ (2 * d * k).natAbs ≤ 2000000)) :
    Calls Tryd.prog 26 #[.float .f64 (I d), .int .i64 k, .int .i64 n] w fun e w' => e = .returned (.float .f64 (I ((2 * d * k + n) / (2 * n)))) ∧ w' = w := by
  obtain ⟨s1, s2, s3⟩ := hs.out
  have m1 : floatBits .mul .f64 4611686018427387904 (I d) = some (I (2 * d)) := by
    have := mul_I d 2 (by omega) (by omega) (by decide) (by omega)
    rw [Int.mul_comm d 2] at this
    rw [c_two]
    have h2 : Ieee.double.mul (I 2) (I d) = Ieee.double.mul (I d) (I 2) := by
      by_cases h0 : d = 0
      · subst h0; decide +kernel
      · obtain ⟨r, e, i⟩ := mul_is (.I 2) (.I d) (by decide) (by omega) (by omega)
        rw [e, this]
        rcases i with h | ⟨hz, _⟩
        · rw [h]
        · omega
    exact h2.trans this
  have m2 : floatBits .mul .f64 (I (2 * d)) (I k) = some (I (2 * d * k)) := mul_I (2 * d) k (by omega) (by omega) (by omega) (by omega)
  have m3 : floatBits .add .f64 (I (2 * d * k)) (I n) = some (I (2 * d * k + n)) := add_I (by omega) (by omega) (by omega)
  obtain ⟨x, m4, hfl⟩ := quo_floor (2 * d * k + n) (2 * n) (by omega) (by omega) (by omega)
  have o1 : ∀ t w, (binOp .mul t (.float .f64 4611686018427387904) (.float .f64 (I d))).run Tryd.prog w = .ok (.float .f64 (I (2 * d))) w := fun t w => run_float_arith w .mul t .f64 _ _ _ m1
  have o2 : ∀ t w, (binOp .mul t (.float .f64 (I (2 * d))) (.float .f64 (floatOfInt .f64 k))).run Tryd.prog w = .ok (.float .f64 (I (2 * d * k))) w := fun t w => run_float_arith w .mul t .f64 _ _ _ m2
  have o3 : ∀ t w, (binOp .add t (.float .f64 (I (2 * d * k))) (.float .f64 (floatOfInt .f64 n))).run Tryd.prog w = .ok (.float .f64 (I (2 * d * k + n))) w := fun t w => run_float_arith w .add t .f64 _ _ _ m3
  have o4 : ∀ t w, (binOp .quo t (.float .f64 (I (2 * d * k + n))) (.float .f64 (floatOfInt .f64 (2 * n)))).run Tryd.prog w = .ok (.float .f64 x) w := fun t w => run_float_arith w .quo t .f64 _ _ _ m4
  have hfK := Kept.mk hfl
  have i1 := I_lt (2 * d)
  clear m1 m2 m3 m4 hfl s1 s2 s3 hs
  generalize 2 * d * k + n = E at *
  go_enter Tryd.func26, Tryd.ntmps26
  go_wp2_with (first
    | simp only [o1] | simp only [o2] | simp only [o3] | simp only [o4]
    | (go_at_call 34; (with_reducible refine (hfK.out _).mono ?_); rintro e w' ⟨rfl, rfl⟩))
  all_goals (go_ret; exact ⟨rfl, rfl⟩)
end Go.Proofs.YthhhcfipmeganaaDoor.Ra
