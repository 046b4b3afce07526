/-
  The walk of PointQuarters: it returns true. No condition.
-/
import Derived.Test.YtlffbdfkanibcaaRg
import Derived.Test.YtlffbdfkanibcaaFm
namespace Go.Proofs.Ytlffbdfkanibcaa.Pt
open Fl Go.RowKit
set_option linter.unusedSimpArgs false
set_option linter.unusedVariables false

def ng (b : Nat) : Nat := b ^^^ 2 ^ 63
@[local go_sem] theorem unary_neg_f (b : Nat) : Op.unary .neg (.float .f64 b) = pure (.float .f64 (ng b)) := rfl

/-- Turned by i, so many times. -/
def rot : Nat → Int × Int → Int × Int
  | 0, p => p
  | k + 1, p => (-(rot k p).2, (rot k p).1)

theorem rot_in (k : Nat) (p : Int × Int) (h : p.1.natAbs ≤ 32767 ∧ p.2.natAbs ≤ 32767) : (rot k p).1.natAbs ≤ 32767 ∧ (rot k p).2.natAbs ≤ 32767 := by
  induction k with
  | zero => exact h
  | succ k ih => exact ⟨by simp only [rot]; omega, by simp only [rot]; omega⟩

theorem rot4 (p : Int × Int) : rot 4 p = p := by
  obtain ⟨a, b⟩ := p
  simp [rot]

theorem turn_i (a b : Int) (h : Kept (a.natAbs ≤ 32767 ∧ b.natAbs ≤ 32767)) (w : World) :
    Calls Try.prog 10 #[C a b, .complex .f64 0 4607182418800017408] w fun r w' => r = .returned (.tuple #[C (-b) a, .bool true]) ∧ w' = w := by
  obtain ⟨h1, h2⟩ := h.out
  rw [Pt.c1]
  exact Turn_in a b 0 1 (by unfold In; omega) (by unfold In; omega) (by decide) (by decide) (-b) a (by omega) (by omega) (by unfold In; omega) (by unfold In; omega) w

theorem far_turned (a b c d : Int) : (-b - -d) * (-b - -d) + (a - c) * (a - c) = (a - c) * (a - c) + (b - d) * (b - d) := by
  have : -b - -d = -(b - d) := by omega
  rw [this, Int.neg_mul_neg]; omega

theorem Len_ex (a b c d : Int) (m : Nat) (hm : m ≤ 32767) (h : Kept (a.natAbs ≤ m ∧ b.natAbs ≤ m)) (h' : Kept (c.natAbs ≤ m ∧ d.natAbs ≤ m)) (r : Nat) (hr : Kept (Ieee.double.sqrt (I ((a - c) * (a - c) + (b - d) * (b - d))) = some r)) (w : World) :
    Calls Try.prog 11 #[C a b, C c d] w fun e w' => e = .returned (.float .f64 r) ∧ w' = w := by
  obtain ⟨h1, h2⟩ := h.out
  obtain ⟨h3, h4⟩ := h'.out
  exact Len_in a b c d (by unfold In; omega) (by unfold In; omega) (by unfold In; omega) (by unfold In; omega) r hr.out w

theorem sq_nn (x : Int) : 0 ≤ x * x := by
  rcases Int.le_total 0 x with h | h
  · exact Int.mul_nonneg h h
  · exact Int.mul_nonneg_of_nonpos_of_nonpos h h

theorem far_small (a b c d : Int) (m : Nat) (hm : m ≤ 32767) (h : Kept (a.natAbs ≤ m ∧ b.natAbs ≤ m)) (h' : Kept (c.natAbs ≤ m ∧ d.natAbs ≤ m)) :
    0 ≤ (a - c) * (a - c) + (b - d) * (b - d) ∧ ((a - c) * (a - c) + (b - d) * (b - d)).natAbs < 2 ^ 53 := by
  obtain ⟨h1, h2⟩ := h.out
  obtain ⟨h3, h4⟩ := h'.out
  have p1 := prod_abs (a := a - c) (b := a - c) (m := 65534) (n := 65534) (by omega) (by omega)
  have p2 := prod_abs (a := b - d) (b := b - d) (m := 65534) (n := 65534) (by omega) (by omega)
  have q1 := sq_nn (a - c)
  have q2 := sq_nn (b - d)
  omega

theorem neg_eq (a : Int) (h : a.natAbs < 2 ^ 53) : (FloatKind.f64.format.order (I (-a)) (ng (I a)) != some Ordering.eq) = false := by
  have := order_is (.I (-a)) (neg_is a h) (by omega) (by omega)
  rw [cmp_eq] at this
  have h2 : FloatKind.f64.format.order (I (-a)) (ng (I a)) = some Ordering.eq := this
  rw [h2]; rfl

theorem Quarters_walk (a b c d : Int) (w : World) :
    Calls Try.prog 3 #[.int .i64 a, .int .i64 b, .int .i64 c, .int .i64 d] w fun r w' => r = .returned (.bool true) ∧ Below w.heap.size w w' := by
  go_enter Try.func3, Try.ntmps3
  go_wp2_with (first
    | (go_at_call 9; (with_reducible refine (of_ex 32767 32767 a b (by omega) (by omega) (by omega) _).mono ?_); rintro e w' ⟨p1, p2, hp, rfl, rfl⟩)
    | (go_at_call 9; (with_reducible refine (of_ex 32767 32767 c d (by omega) (by omega) (by omega) _).mono ?_); rintro e w' ⟨q1, q2, hq, rfl, rfl⟩))
  go_loop [11, 12, 13] (fun x y i => ∃ k : Nat, k ≤ 4 ∧ i = .int .i64 k ∧ x = CP (rot k (p1, p2)) ∧ y = CP (rot k (q1, q2))) (fun _ _ i => 4 - (intOf i).toNat)
  case atStart => exact ⟨0, by omega, rfl, rfl, rfl⟩
  case round =>
    obtain ⟨k, hk, rfl, rfl, rfl⟩ := hrel
    have hpk := rot_in k (p1, p2) hp.out
    have hqk := rot_in k (q1, q2) hq.out
    by_cases hlt : k < 4
    · have hrp : Kept (rot (k + 1) (p1, p2) = (-(rot k (p1, p2)).2, (rot k (p1, p2)).1)) := ⟨rfl⟩
      have hrq : Kept (rot (k + 1) (q1, q2) = (-(rot k (q1, q2)).2, (rot k (q1, q2)).1)) := ⟨rfl⟩
      have hone : Kept (k = 1 → rot k (p1, p2) = (-p2, p1)) := ⟨by rintro rfl; rfl⟩
      generalize rot k (p1, p2) = x at *
      generalize rot k (q1, q2) = y at *
      obtain ⟨x1, x2⟩ := x
      obtain ⟨y1, y2⟩ := y
      simp only at hrp hrq hpk hqk
      have hpK := Kept.mk hpk
      have hqK := Kept.mk hqk
      have hpn : Kept ((-x2).natAbs ≤ 32767 ∧ x1.natAbs ≤ 32767) := ⟨by omega, by omega⟩
      have hqn : Kept ((-y2).natAbs ≤ 32767 ∧ y1.natAbs ≤ 32767) := ⟨by omega, by omega⟩
      clear hpk hqk
      obtain ⟨f1, f2⟩ := far_small x1 x2 y1 y2 32767 (by omega) hpK hqK
      obtain ⟨r, hr, hrr⟩ := sqrt_there _ f1 f2
      have hR := Kept.mk hr
      rw [← far_turned x1 x2 y1 y2] at hr
      have hR' := Kept.mk hr
      clear hr f1 f2
      have hself : (FloatKind.f64.format.order r r != some Ordering.eq) = false := by
        have h2 : FloatKind.f64.format.order r r = some Ordering.eq := hrr
        rw [h2]; rfl
      clear hrr
      by_cases hk1 : k = 1
      · have ho := hone.out hk1
        injection ho with ho1 ho2
        subst ho1 ho2
        have n1 := neg_eq x2 (by have := hpK.out; omega)
        have n2 := neg_eq p2 (by have := hp.out; omega)
        subst hk1
        clear hone
        go_wp2_with (first
          | (go_at_call 10; (with_reducible refine (turn_i _ _ hpK _).mono ?_); rintro e w' ⟨rfl, rfl⟩)
          | (go_at_call 10; (with_reducible refine (turn_i _ _ hqK _).mono ?_); rintro e w' ⟨rfl, rfl⟩)
          | (go_at_call 11; (with_reducible refine (Len_ex _ _ _ _ 32767 (by omega) hpn hqn r hR' _).mono ?_); rintro e w' ⟨rfl, rfl⟩)
          | (go_at_call 11; (with_reducible refine (Len_ex _ _ _ _ 32767 (by omega) hpK hqK r hR _).mono ?_); rintro e w' ⟨rfl, rfl⟩))
        go_round
        case rel => exact ⟨2, by omega, by go_num, by rw [hrp.out], by rw [hrq.out]⟩
        case measure => simp [intOf]
      · have hk1' : ((k : Int) == 1) = false := by rw [beq_eq_false_iff_ne]; omega
        go_wp2_with (first
          | (go_at_call 10; (with_reducible refine (turn_i _ _ hpK _).mono ?_); rintro e w' ⟨rfl, rfl⟩)
          | (go_at_call 10; (with_reducible refine (turn_i _ _ hqK _).mono ?_); rintro e w' ⟨rfl, rfl⟩)
          | (go_at_call 11; (with_reducible refine (Len_ex _ _ _ _ 32767 (by omega) hpn hqn r hR' _).mono ?_); rintro e w' ⟨rfl, rfl⟩)
          | (go_at_call 11; (with_reducible refine (Len_ex _ _ _ _ 32767 (by omega) hpK hqK r hR _).mono ?_); rintro e w' ⟨rfl, rfl⟩))
        go_round
        case rel => exact ⟨k + 1, by omega, by go_num, by rw [hrp.out], by rw [hrq.out]⟩
        case measure => simp [intOf]; omega
    · have hke : k = 4 := by omega
      subst hke
      rw [rot4, rot4]
      clear hpk hqk
      go_wp2_with (first
        | (go_at_call 12; (with_reducible refine (SamePoint_same (I p1) (I p2) _).mono ?_); rintro e w' ⟨rfl, rfl⟩)
        | (go_at_call 12; (with_reducible refine (SamePoint_same (I q1) (I q2) _).mono ?_); rintro e w' ⟨rfl, rfl⟩)
        | (go_at_call 13; (with_reducible refine (awake_walk _).mono ?_); rintro e w' ⟨rfl, hb⟩; have hB := Kept.mk hb; clear hb))
      all_goals (go_ret; exact ⟨rfl, hB.out⟩)
end Go.Proofs.Ytlffbdfkanibcaa.Pt
