/-
  The walk of PointRing: it returns true. No condition.
-/
import Derived.Test.YtlffbdfkanibcaaBx
namespace Go.Proofs.Ytlffbdfkanibcaa.Pt
open Fl Go.RowKit
set_option linter.unusedSimpArgs false
set_option linter.unusedVariables false

theorem Turn_ex (m n : Nat) (h : 2 * (m * n) ≤ 32767) (hm : m ≤ 32767) (hn : n ≤ 32767) (a b c d : Int) (ha : Kept (a.natAbs ≤ m ∧ b.natAbs ≤ m)) (hc : Kept (c.natAbs ≤ n ∧ d.natAbs ≤ n)) (w : World) :
    Calls Try.prog 10 #[C a b, C c d] w fun r w' => ∃ e f : Int, Kept (e = a * c - b * d ∧ f = a * d + b * c) ∧ Kept (e.natAbs ≤ 2 * (m * n) ∧ f.natAbs ≤ 2 * (m * n)) ∧ r = .returned (.tuple #[C e f, .bool true]) ∧ w' = w := by
  obtain ⟨ha, hb⟩ := ha.out
  obtain ⟨hc, hd⟩ := hc.out
  have p1 := prod_abs ha hc
  have p2 := prod_abs hb hd
  have p3 := prod_abs ha hd
  have p4 := prod_abs hb hc
  refine (Turn_in a b c d (by unfold In; omega) (by unfold In; omega) (by unfold In; omega) (by unfold In; omega) _ _ rfl rfl (by unfold In; omega) (by unfold In; omega) w).mono ?_
  rintro e w' ⟨rfl, rfl⟩
  exact ⟨_, _, ⟨rfl, rfl⟩, ⟨by omega, by omega⟩, rfl, rfl⟩

theorem Move_ex (m n : Nat) (h : m + n ≤ 32767) (a b c d : Int) (ha : Kept (a.natAbs ≤ m ∧ b.natAbs ≤ m)) (hc : Kept (c.natAbs ≤ n ∧ d.natAbs ≤ n)) (w : World) :
    Calls Try.prog 17 #[C a b, C c d] w fun r w' => ∃ e f : Int, Kept (e = a + c ∧ f = b + d) ∧ Kept (e.natAbs ≤ m + n ∧ f.natAbs ≤ m + n) ∧ r = .returned (.tuple #[C e f, .bool true]) ∧ w' = w := by
  obtain ⟨ha, hb⟩ := ha.out
  obtain ⟨hc, hd⟩ := hc.out
  refine (Move_in a b c d (by unfold In; omega) (by unfold In; omega) (by unfold In; omega) (by unfold In; omega) _ _ rfl rfl (by unfold In; omega) (by unfold In; omega) w).mono ?_
  rintro e w' ⟨rfl, rfl⟩
  exact ⟨_, _, ⟨rfl, rfl⟩, ⟨by omega, by omega⟩, rfl, rfl⟩

theorem of_ex (m : Int) (k : Nat) (x y : Int) (hm : 0 < m) (hm' : m ≤ 32767) (hk : m ≤ k) (w : World) :
    Calls Try.prog 9 #[.int .i64 x, .int .i64 y, .int .i64 m] w fun e w' => ∃ a b : Int, Kept (a.natAbs ≤ k ∧ b.natAbs ≤ k) ∧ e = .returned (C a b) ∧ w' = w := by
  refine (of_walk x y m (by omega) (by omega) w).mono ?_
  rintro e w' ⟨a, b, h1, h2, h3, h4, rfl, rfl⟩
  exact ⟨a, b, ⟨by omega, by omega⟩, rfl, rfl⟩

theorem SamePoint_eq (a b c d : Int) (h : Kept (a = c ∧ b = d)) (w : World) :
    Calls Try.prog 12 #[C a b, C c d] w fun e w' => e = .returned (.bool true) ∧ w' = w := by
  obtain ⟨rfl, rfl⟩ := h.out
  exact SamePoint_same _ _ w

theorem ring1 (p1 p2 q1 q2 r1 r2 : Int) : (p1 * q1 - p2 * q2) * r1 - (p1 * q2 + p2 * q1) * r2 = p1 * (q1 * r1 - q2 * r2) - p2 * (q1 * r2 + q2 * r1) := by
  simp only [Int.sub_mul, Int.add_mul, Int.mul_sub, Int.mul_add, Int.mul_assoc]; omega
theorem ring2 (p1 p2 q1 q2 r1 r2 : Int) : (p1 * q1 - p2 * q2) * r2 + (p1 * q2 + p2 * q1) * r1 = p1 * (q1 * r2 + q2 * r1) + p2 * (q1 * r1 - q2 * r2) := by
  simp only [Int.sub_mul, Int.add_mul, Int.mul_sub, Int.mul_add, Int.mul_assoc]; omega
theorem ring3 (p1 p2 q1 q2 r1 r2 : Int) : (p1 + q1) * r1 - (p2 + q2) * r2 = (p1 * r1 - p2 * r2) + (q1 * r1 - q2 * r2) := by
  simp only [Int.add_mul]; omega
theorem ring4 (p1 p2 q1 q2 r1 r2 : Int) : (p1 + q1) * r2 + (p2 + q2) * r1 = (p1 * r2 + p2 * r1) + (q1 * r2 + q2 * r1) := by
  simp only [Int.add_mul]; omega

theorem Ring_walk (a b c d e f : Int) (w : World) :
    Calls Try.prog 6 #[.int .i64 a, .int .i64 b, .int .i64 c, .int .i64 d, .int .i64 e, .int .i64 f] w fun r w' => r = .returned (.bool true) ∧ Below w.heap.size w w' := by
  go_enter Try.func6, Try.ntmps6
  go_wp2_with (first
    | (go_at_call 9; (with_reducible refine (of_ex 30 30 a b (by omega) (by omega) (by omega) _).mono ?_); rintro e w' ⟨p1, p2, hp, rfl, rfl⟩)
    | (go_at_call 9; (with_reducible refine (of_ex 10 10 c d (by omega) (by omega) (by omega) _).mono ?_); rintro e w' ⟨q1, q2, hq, rfl, rfl⟩)
    | (go_at_call 9; (with_reducible refine (of_ex 10 10 e f (by omega) (by omega) (by omega) _).mono ?_); rintro e w' ⟨r1, r2, hr, rfl, rfl⟩)
    | (go_at_call 10; (with_reducible refine (Turn_ex 10 10 (by omega) (by omega) (by omega) q1 q2 r1 r2 hq hr _).mono ?_); rintro e w' ⟨x1, x2, hx, hxb, rfl, rfl⟩)
    | (go_at_call 10; (with_reducible refine (Turn_ex 30 10 (by omega) (by omega) (by omega) p1 p2 q1 q2 hp hq _).mono ?_); rintro e w' ⟨y1, y2, hy, hyb, rfl, rfl⟩)
    | (go_at_call 10; (with_reducible refine (Turn_ex 600 10 (by omega) (by omega) (by omega) y1 y2 r1 r2 hyb hr _).mono ?_); rintro e w' ⟨s1, s2, hs, hsb, rfl, rfl⟩)
    | (go_at_call 10; (with_reducible refine (Turn_ex 30 200 (by omega) (by omega) (by omega) p1 p2 x1 x2 hp hxb _).mono ?_); rintro e w' ⟨t1, t2, ht, htb, rfl, rfl⟩)
    | (go_at_call 17; (with_reducible refine (Move_ex 30 10 (by omega) p1 p2 q1 q2 hp hq _).mono ?_); rintro e w' ⟨m1, m2, hm, hmb, rfl, rfl⟩)
    | (go_at_call 10; (with_reducible refine (Turn_ex 40 10 (by omega) (by omega) (by omega) m1 m2 r1 r2 hmb hr _).mono ?_); rintro e w' ⟨n1, n2, hn, hnb, rfl, rfl⟩)
    | (go_at_call 10; (with_reducible refine (Turn_ex 30 10 (by omega) (by omega) (by omega) p1 p2 r1 r2 hp hr _).mono ?_); rintro e w' ⟨g1, g2, hg, hgb, rfl, rfl⟩)
    | (go_at_call 17; (with_reducible refine (Move_ex 600 200 (by omega) g1 g2 x1 x2 hgb hxb _).mono ?_); rintro e w' ⟨k1, k2, hk, hkb, rfl, rfl⟩)
    | (go_at_call 12; (with_reducible refine (SamePoint_eq s1 s2 t1 t2 ⟨by rw [hs.out.1, hs.out.2, ht.out.1, ht.out.2, hx.out.1, hx.out.2, hy.out.1, hy.out.2]; exact ⟨ring1 _ _ _ _ _ _, ring2 _ _ _ _ _ _⟩⟩ _).mono ?_); rintro e w' ⟨rfl, rfl⟩)
    | (go_at_call 12; (with_reducible refine (SamePoint_eq n1 n2 k1 k2 ⟨by rw [hn.out.1, hn.out.2, hk.out.1, hk.out.2, hx.out.1, hx.out.2, hg.out.1, hg.out.2, hm.out.1, hm.out.2]; exact ⟨ring3 _ _ _ _ _ _, ring4 _ _ _ _ _ _⟩⟩ _).mono ?_); rintro e w' ⟨rfl, rfl⟩)
    | (go_at_call 13; (with_reducible refine (awake_walk _).mono ?_); rintro e w' ⟨rfl, hb⟩; have hB := Kept.mk hb; clear hb))
  all_goals (go_ret; exact ⟨rfl, hB.out⟩)
end Go.Proofs.Ytlffbdfkanibcaa.Pt
