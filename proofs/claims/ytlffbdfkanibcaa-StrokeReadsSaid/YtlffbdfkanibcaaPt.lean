/-
  The walks of package point's functions on whole numbers: what each call returns. No condition beyond the numbers' bounds.
-/
import Derived.Test.YtlffbdfkanibcaaProg
import Derived.Test.YtlffbdfkanibcaaFl
import Derived.Tactics
import Derived.Tactics2
import Derived.WalkKit
import Derived.WalkLawsBesides
namespace Go.Proofs.Ytlffbdfkanibcaa.Pt
open Fl
set_option linter.unusedSimpArgs false
set_option linter.unusedVariables false

@[go_sem] theorem run29 (a : Nat) (w : World) : (callFunc 29 #[.float .f64 a]).run Try.prog w = .ok (.value (.int .u64 a)) w := by kernel_rfl
@[go_sem] theorem run30 (a : Int) (w : World) : (callFunc 30 #[.int .u64 a]).run Try.prog w = .ok (.value (.float .f64 a.toNat)) w := by kernel_rfl
theorem run42 (a r : Nat) (h : Ieee.double.sqrt a = some r) (w : World) : (callFunc 42 #[.float .f64 a]).run Try.prog w = .ok (.value (.float .f64 r)) w := by
  have h1 : (callFunc 42 #[.float .f64 a]).run Try.prog w = (Sem.run Try.prog (do let v ← (match Ieee.double.sqrt a with | some r => pure (.float .f64 r) | none => do pure (.float .f64 (← choose (.nanBits .f64 a a)))); pure (Next.value v)) w) := by kernel_rfl
  rw [h1, h]; rfl
theorem run56 (x : Nat) (s : Bool) (m : Nat) (p : Int) (h : Ieee.double.read x = .number s m p) (w : World) :
    (callFunc 56 #[.float .f64 x]).run Try.prog w = .ok (.value (.float .f64 (Ieee.double.write (Ieee.Datum.integral .zero (.number s m p))))) w := by
  have h1 : (callFunc 56 #[.float .f64 x]).run Try.prog w = (Sem.run Try.prog (do
      let v ← (match Ieee.double.read x with
        | .nan s t =>
          if Ieee.double.quiet t = t then pure (.float .f64 x) else do
          let kept ← choose (.extern "math.Floor,Ceil,Trunc,RoundToEven.signallingNaN kept" 2)
          pure (.float .f64 (if kept == 1 then x else FloatKind.f64.encode (.nan s (Ieee.double.quiet t))))
        | d => pure (.float .f64 (FloatKind.f64.encode (d.integral .zero))))
      pure (Next.value v)) w) := by kernel_rfl
  rw [h1, h]; rfl

theorem trunc_walk (x : Nat) (s : Bool) (m : Nat) (p : Int) (h : Ieee.double.read x = .number s m p) (w : World) :
    Calls Try.prog 50 #[.float .f64 x] w fun e w' => e = .returned (.float .f64 (Ieee.double.write (Ieee.Datum.integral .zero (.number s m p)))) ∧ w' = w := by
  have h1 := run56 x s m p h
  go_enter Try.func50, Try.ntmps50
  go_wp2_with (simp only [h1])
  all_goals (go_ret; exact ⟨rfl, rfl⟩)

theorem signbit0_walk (w : World) : Calls Try.prog 51 #[.float .f64 0] w fun e w' => e = .returned (.bool false) ∧ w' = w := by
  go_enter Try.func51, Try.ntmps51
  go_wp2
  all_goals (go_ret; exact ⟨rfl, rfl⟩)

theorem c_low : (13898108450065350656 : Nat) = I (-32768) := by decide +kernel
theorem c_high : (4674736138332667904 : Nat) = I 32767 := by decide +kernel
theorem c_zero : (0 : Nat) = I 0 := by decide +kernel

theorem ord (a b : Int) (ha : a.natAbs < 2 ^ 53) (hb : b.natAbs < 2 ^ 53) : FloatKind.f64.format.order (I a) (I b) = some (compare a b) := order_is (.I a) (.I b) ha hb

theorem cmp_lt {a b : Int} (h : a < b) : compare a b = .lt := by simp [compare, compareOfLessAndEq, h]
theorem cmp_eq (a : Int) : compare a a = .eq := by simp [compare, compareOfLessAndEq]
theorem cmp_gt {a b : Int} (h : b < a) : compare a b = .gt := by
  have h1 : ¬ a < b := by omega
  have h2 : ¬ a = b := by omega
  simp [compare, compareOfLessAndEq, h1, h2]
theorem ge_of {a b : Int} (h : b ≤ a) : ((some (compare a b) == some Ordering.gt) || (some (compare a b) == some Ordering.eq)) = true := by
  rcases Int.lt_or_eq_of_le h with h | h
  · rw [cmp_gt h]; rfl
  · subst h; rw [cmp_eq]; rfl
theorem le_of {a b : Int} (h : a ≤ b) : ((some (compare a b) == some Ordering.lt) || (some (compare a b) == some Ordering.eq)) = true := by
  rcases Int.lt_or_eq_of_le h with h | h
  · rw [cmp_lt h]; rfl
  · subst h; rw [cmp_eq]; rfl

theorem whole_in (n : Int) (h1 : -32768 ≤ n) (h2 : n ≤ 32767) (w : World) : Calls Try.prog 41 #[.float .f64 (I n)] w fun e w' => e = .returned (.bool true) ∧ w' = w := by
  have hn : n.natAbs < 2 ^ 53 := by omega
  obtain ⟨s, m, p, hr, hi⟩ := trunc_is (.I n) hn
  have ht := trunc_walk (I n) s m p hr
  have o1 : FloatKind.f64.format.order (I n) 13898108450065350656 = some (compare n (-32768)) := by rw [c_low]; exact ord _ _ hn (by decide)
  have o2 : FloatKind.f64.format.order (I n) 4674736138332667904 = some (compare n 32767) := by rw [c_high]; exact ord _ _ hn (by decide)
  have o3 : FloatKind.f64.format.order (I n) 0 = some (compare n 0) := by
    have := ord n 0 hn (by decide)
    rwa [← c_zero] at this
  have o4 : FloatKind.f64.format.order (I n) (Ieee.double.write (Ieee.Datum.integral .zero (.number s m p))) = some .eq := by
    have := order_is (.I n) hi hn hn
    rw [cmp_eq] at this; exact this
  generalize (Ieee.double.write (Ieee.Datum.integral .zero (.number s m p))) = y at ht o4
  have e1 : ((FloatKind.f64.format.order (I n) 13898108450065350656 == some Ordering.gt) || (FloatKind.f64.format.order (I n) 13898108450065350656 == some Ordering.eq)) = true := by rw [o1]; exact ge_of h1
  have e2 : ((FloatKind.f64.format.order (I n) 4674736138332667904 == some Ordering.lt) || (FloatKind.f64.format.order (I n) 4674736138332667904 == some Ordering.eq)) = true := by rw [o2]; exact le_of h2
  have e4 : (FloatKind.f64.format.order (I n) y == some Ordering.eq) = true := by rw [o4]; rfl
  clear o1 o2 o4
  by_cases h0 : n = 0
  · subst h0
    have e3 : (FloatKind.f64.format.order (I 0) 0 != some Ordering.eq) = false := by rw [o3, cmp_eq]; rfl
    clear o3
    rw [I_zero] at *
    go_enter Try.func41, Try.ntmps41
    go_wp2_with (first | (go_at_call 50; (with_reducible refine (ht _).mono ?_); rintro e w' ⟨rfl, rfl⟩) | (go_at_call 51; (with_reducible refine (signbit0_walk _).mono ?_); rintro e w' ⟨rfl, rfl⟩))
    all_goals (go_ret; exact ⟨rfl, rfl⟩)
  · have e3 : (FloatKind.f64.format.order (I n) 0 != some Ordering.eq) = true := by
      rw [o3]
      rcases Int.lt_or_gt_of_ne h0 with h | h
      · rw [cmp_lt h]; rfl
      · rw [cmp_gt h]; rfl
    clear o3
    go_enter Try.func41, Try.ntmps41
    go_wp2_with (first | (go_at_call 50; (with_reducible refine (ht _).mono ?_); rintro e w' ⟨rfl, rfl⟩))
    all_goals (go_ret; exact ⟨rfl, rfl⟩)

theorem whole_out (n : Int) (hn : n.natAbs < 2 ^ 53) (h : 32767 < n) (w : World) : Calls Try.prog 41 #[.float .f64 (I n)] w fun e w' => e = .returned (.bool false) ∧ w' = w := by
  have o1 : FloatKind.f64.format.order (I n) 13898108450065350656 = some (compare n (-32768)) := by rw [c_low]; exact ord _ _ hn (by decide)
  have o2 : FloatKind.f64.format.order (I n) 4674736138332667904 = some (compare n 32767) := by rw [c_high]; exact ord _ _ hn (by decide)
  have e1 : ((FloatKind.f64.format.order (I n) 13898108450065350656 == some Ordering.gt) || (FloatKind.f64.format.order (I n) 13898108450065350656 == some Ordering.eq)) = true := by rw [o1]; exact ge_of (by omega)
  have e2 : ((FloatKind.f64.format.order (I n) 4674736138332667904 == some Ordering.lt) || (FloatKind.f64.format.order (I n) 4674736138332667904 == some Ordering.eq)) = false := by rw [o2, cmp_gt h]; rfl
  clear o1 o2
  go_enter Try.func41, Try.ntmps41
  go_wp2
  all_goals (go_ret; exact ⟨rfl, rfl⟩)

/-- In the bounds of a point's part. -/
abbrev In (n : Int) : Prop := -32768 ≤ n ∧ n ≤ 32767
theorem In.abs {n : Int} (h : In n) : n.natAbs < 2 ^ 53 := by unfold In at h; omega

/-- A complex value of two whole numbers. -/
abbrev C (a b : Int) : Value := .complex .f64 (I a) (I b)

theorem May_in (a b : Int) (ha : In a) (hb : In b) (w : World) : Calls Try.prog 27 #[C a b] w fun e w' => e = .returned (.bool true) ∧ w' = w := by
  go_enter Try.func27, Try.ntmps27
  go_wp2_with (first | (go_at_call 41; (with_reducible refine (whole_in a ha.1 ha.2 _).mono ?_); rintro e w' ⟨rfl, rfl⟩) | (go_at_call 41; (with_reducible refine (whole_in b hb.1 hb.2 _).mono ?_); rintro e w' ⟨rfl, rfl⟩))
  all_goals (go_ret; exact ⟨rfl, rfl⟩)

theorem clean_walk (x y : Nat) (a b : Int) (hx : Is x a) (hy : Is y b) (ha : a.natAbs < 2 ^ 53) (hb : b.natAbs < 2 ^ 53) (w : World) : Calls Try.prog 40 #[.complex .f64 x y] w fun e w' => e = .returned (C a b) ∧ w' = w := by
  have h1 := add_zero hx ha
  have h2 := add_zero hy hb
  have b1 : ∀ t w, (binOp .add t (.float .f64 x) (.float .f64 0)).run Try.prog w = .ok (.float .f64 (I a)) w := fun t w => run_float_arith w .add t .f64 x 0 _ h1
  have b2 : ∀ t w, (binOp .add t (.float .f64 y) (.float .f64 0)).run Try.prog w = .ok (.float .f64 (I b)) w := fun t w => run_float_arith w .add t .f64 y 0 _ h2
  go_enter Try.func40, Try.ntmps40
  go_wp2_with (first | simp only [b1] | simp only [b2])
  all_goals (go_ret; exact ⟨rfl, rfl⟩)

theorem made_in (a b c d e f : Int) (x y : Nat) (ha : In a) (hb : In b) (hc : In c) (hd : In d) (he : In e) (hf : In f) (hx : Is x e) (hy : Is y f) (w : World) :
    Calls Try.prog 26 #[C a b, C c d, .complex .f64 x y] w fun r w' => r = .returned (.tuple #[C e f, .bool true]) ∧ w' = w := by
  go_enter Try.func26, Try.ntmps26
  go_wp2_with (first
    | (go_at_call 40; (with_reducible refine (clean_walk x y e f hx hy he.abs hf.abs _).mono ?_); rintro e w' ⟨rfl, rfl⟩)
    | (go_at_call 27; (with_reducible refine (May_in a b ha hb _).mono ?_); rintro e w' ⟨rfl, rfl⟩)
    | (go_at_call 27; (with_reducible refine (May_in c d hc hd _).mono ?_); rintro e w' ⟨rfl, rfl⟩)
    | (go_at_call 27; (with_reducible refine (May_in e f he hf _).mono ?_); rintro e w' ⟨rfl, rfl⟩))
  all_goals (go_ret2; exact ⟨rfl, rfl⟩)

end Go.Proofs.Ytlffbdfkanibcaa.Pt
