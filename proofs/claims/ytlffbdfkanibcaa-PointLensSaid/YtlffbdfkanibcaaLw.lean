/-
  The walk of PointLens: it returns true. No condition.
-/
import Derived.Test.YtlffbdfkanibcaaLf
namespace Go.Proofs.Ytlffbdfkanibcaa.Pt
open Fl Fr Go.RowKit
set_option linter.unusedSimpArgs false
set_option linter.unusedVariables false

theorem andNot_top (x : Nat) (hx : x < 2 ^ 64) : (bits BinOp.andNot IntKind.u64 (x : Int) 9223372036854775808).toNat = x % 2 ^ 63 := by
  have h1 : (BitVec.ofInt 64 (x : Int) &&& ~~~(BitVec.ofInt 64 9223372036854775808)).toNat = x % 2 ^ 63 := by
    have e : ~~~(BitVec.ofInt 64 9223372036854775808) = BitVec.ofNat 64 (2 ^ 63 - 1) := by decide
    rw [e, BitVec.toNat_and, BitVec.toNat_ofNat, BitVec.ofInt_natCast, BitVec.toNat_ofNat, Nat.mod_eq_of_lt hx, Nat.mod_eq_of_lt (by decide : 2 ^ 63 - 1 < 2 ^ 64), Nat.and_two_pow_sub_one_eq_mod]
  have h2 : bits BinOp.andNot IntKind.u64 (x : Int) 9223372036854775808 = IntKind.u64.wrap ((BitVec.ofInt 64 (x : Int) &&& ~~~(BitVec.ofInt 64 9223372036854775808)).toNat : Int) := rfl
  rw [h2, h1]
  have h3 : x % 2 ^ 63 < 2 ^ 63 := Nat.mod_lt _ (by decide)
  generalize x % 2 ^ 63 = y at *
  have h4 : IntKind.u64.wrap (y : Int) = y := by
    simp only [IntKind.wrap, IntKind.signed, IntKind.bits]
    simp
    omega
  rw [h4]; rfl

theorem Abs_walk (x : Nat) (hx : x < 2 ^ 64) (w : World) :
    Calls Try.prog 16 #[.float .f64 x] w fun e w' => e = .returned (.float .f64 (x % 2 ^ 63)) ∧ w' = w := by
  have h := andNot_top x hx
  go_enter Try.func16, Try.ntmps16
  go_wp2
  all_goals (go_ret; refine ⟨?_, rfl⟩; rw [← h]; rfl)

theorem turn_n (a b n : Int) (h : Kept (a.natAbs ≤ 1000 ∧ b.natAbs ≤ 1000)) (hn : Kept (1 ≤ n ∧ n ≤ 30)) (w : World) :
    Calls Try.prog 10 #[C a b, .complex .f64 (floatOfInt .f64 n) 0] w fun r w' => r = .returned (.tuple #[C (a * n) (b * n), .bool true]) ∧ w' = w := by
  obtain ⟨h1, h2⟩ := h.out
  obtain ⟨h3, h4⟩ := hn.out
  have p1 := prod_abs (a := a) (b := n) (m := 1000) (n := 30) h1 (by omega)
  have p2 := prod_abs (a := b) (b := n) (m := 1000) (n := 30) h2 (by omega)
  exact Turn_in a b n 0 (by unfold In; omega) (by unfold In; omega) (by unfold In; omega) (by decide) (a * n) (b * n) (by omega) (by omega) (by unfold In; omega) (by unfold In; omega) w

theorem Len_far (a b c d : Int) (m : Nat) (hm : m ≤ 32767) (h : Kept (a.natAbs ≤ m ∧ b.natAbs ≤ m)) (h' : Kept (c.natAbs ≤ m ∧ d.natAbs ≤ m)) (N : Int) (hN : (a - c) * (a - c) + (b - d) * (b - d) = N) (r : Nat) (hr : Ieee.double.sqrt (I N) = some r) (w : World) :
    Calls Try.prog 11 #[C a b, C c d] w fun e w' => e = .returned (.float .f64 r) ∧ w' = w := by
  subst hN
  exact Len_ex a b c d m hm h h' r ⟨hr⟩ w

theorem far_le (a b c d : Int) (h : Kept (a.natAbs ≤ 1000 ∧ b.natAbs ≤ 1000)) (h' : Kept (c.natAbs ≤ 1000 ∧ d.natAbs ≤ 1000)) :
    0 ≤ (a - c) * (a - c) + (b - d) * (b - d) ∧ (a - c) * (a - c) + (b - d) * (b - d) ≤ 8000000 := by
  obtain ⟨h1, h2⟩ := h.out
  obtain ⟨h3, h4⟩ := h'.out
  have p1 := prod_abs (a := a - c) (b := a - c) (m := 2000) (n := 2000) (by omega) (by omega)
  have p2 := prod_abs (a := b - d) (b := b - d) (m := 2000) (n := 2000) (by omega) (by omega)
  have q1 := sq_nn (a - c)
  have q2 := sq_nn (b - d)
  omega

theorem far_zero (x y : Int) (h : x * x + y * y = 0) : x = 0 ∧ y = 0 := by
  have q1 := sq_nn x
  have q2 := sq_nn y
  have e1 : x * x = 0 := by omega
  have e2 : y * y = 0 := by omega
  exact ⟨by rcases Int.mul_eq_zero.1 e1 with h | h <;> exact h, by rcases Int.mul_eq_zero.1 e2 with h | h <;> exact h⟩

theorem eq_hyp {x y : Nat} {o : Ordering} (h : Ieee.double.order x y = some o) : FloatKind.f64.format.order x y = some o := h

theorem Lens_walk (a b c d n0 : Int) (w : World) :
    Calls Try.prog 5 #[.int .i64 a, .int .i64 b, .int .i64 c, .int .i64 d, .int .i64 n0] w fun r w' => r = .returned (.bool true) ∧ Below w.heap.size w w' := by
  have u3 := Try.underlying3
  have u26 := Try.underlying26
  go_enter Try.func5, Try.ntmps5
  go_wp2_with (first
    | (go_at_call 9; (with_reducible refine (of_ex 1000 1000 a b (by omega) (by omega) (by omega) _).mono ?_); rintro e w' ⟨p1, p2, hp, rfl, rfl⟩)
    | (go_at_call 9; (with_reducible refine (of_ex 1000 1000 c d (by omega) (by omega) (by omega) _).mono ?_); rintro e w' ⟨q1, q2, hq, rfl, rfl⟩)
    | (go_at_call 9; (with_reducible refine (of_ex 1000 1000 d a (by omega) (by omega) (by omega) _).mono ?_); rintro e w' ⟨o1, o2, ho, rfl, rfl⟩)
    | (go_at_call 15; (with_reducible refine (Low_walk n0 30 (by omega) (by omega) _).mono ?_); rintro e w' ⟨l, hl1, hl2, rfl, rfl⟩))
  have hn : Kept (1 ≤ 1 + l ∧ 1 + l ≤ 30) := ⟨by omega, by omega⟩
  clear hl1 hl2
  generalize 1 + l = n at *
  have hn1 := hn.out.1
  have hn2 := hn.out.2
  have hp1 := hp.out.1
  have hp2 := hp.out.2
  have hq1 := hq.out.1
  have hq2 := hq.out.2
  have T1 := turn_n p1 p2 n hp hn
  have T2 := turn_n q1 q2 n hq hn
  have s0 : ∀ t w, (binOp .sub t (.complex .f64 (I p1) (I p2)) (.complex .f64 (I q1) (I q2))).run Try.prog w = .ok (.complex .f64 (I (p1 - q1)) (I (p2 - q2))) w := by
    intro t w
    refine run_complex_sum w .sub (Or.inr rfl) t .f64 _ _ _ _ _ _ ?_
    have e1 : floatBits .sub .f64 (I p1) (I q1) = some (I (p1 - q1)) := sub_I (by omega) (by omega) (by omega)
    have e2 : floatBits .sub .f64 (I p2) (I q2) = some (I (p2 - q2)) := sub_I (by omega) (by omega) (by omega)
    unfold cSumBits; simp only [e1, e2, Option.bind_some]
  have m1 := sq_run (p1 - q1) (by omega)
  have m2 := sq_run (p2 - q2) (by omega)
  have b1 := prod_abs (a := p1 - q1) (b := p1 - q1) (m := 2000) (n := 2000) (by omega) (by omega)
  have b2 := prod_abs (a := p2 - q2) (b := p2 - q2) (m := 2000) (n := 2000) (by omega) (by omega)
  have a1 := add_run ((p1 - q1) * (p1 - q1)) ((p2 - q2) * (p2 - q2)) (by omega) (by omega)
  obtain ⟨f1, f2⟩ := far_le p1 p2 q1 q2 hp hq
  obtain ⟨f3, f4⟩ := far_le p1 p2 o1 o2 hp ho
  obtain ⟨f5, f6⟩ := far_le o1 o2 q1 q2 ho hq
  have hNe : (p1 - q1) * (p1 - q1) + (p2 - q2) * (p2 - q2) = ((p1 - o1) * (p1 - o1) + (p2 - o2) * (p2 - o2)) + ((o1 - q1) * (o1 - q1) + (o2 - q2) * (o2 - q2)) + 2 * ((p1 - o1) * (o1 - q1) + (p2 - o2) * (o2 - q2)) := by
    clear hp hq ho T1 T2 s0 m1 m2 b1 b2 a1 f1 f2 f3 f4 f5 f6
    grind
  have hXe : ((p1 - o1) * (o1 - q1) + (p2 - o2) * (o2 - q2)) * ((p1 - o1) * (o1 - q1) + (p2 - o2) * (o2 - q2)) ≤ ((p1 - o1) * (p1 - o1) + (p2 - o2) * (p2 - o2)) * ((o1 - q1) * (o1 - q1) + (o2 - q2) * (o2 - q2)) := by
    have hs := sq_nn ((p1 - o1) * (o2 - q2) - (p2 - o2) * (o1 - q1))
    generalize p1 - o1 = x1 at *
    generalize p2 - o2 = x2 at *
    generalize o1 - q1 = y1 at *
    generalize o2 - q2 = y2 at *
    clear hp hq ho T1 T2 s0 m1 m2 b1 b2 a1 f1 f2 f3 f4 f5 f6 hNe
    grind
  have hMe : (p1 * n - q1 * n) * (p1 * n - q1 * n) + (p2 * n - q2 * n) * (p2 * n - q2 * n) = n * n * ((p1 - q1) * (p1 - q1) + (p2 - q2) * (p2 - q2)) := by
    clear hp hq ho T1 T2 s0 m1 m2 b1 b2 a1 f1 f2 f3 f4 f5 f6 hNe hXe
    grind
  have hQe : (q1 - p1) * (q1 - p1) + (q2 - p2) * (q2 - p2) = (p1 - q1) * (p1 - q1) + (p2 - q2) * (p2 - q2) := by
    clear hp hq ho T1 T2 s0 m1 m2 b1 b2 a1 f1 f2 f3 f4 f5 f6 hNe hXe hMe
    grind
  have hz := far_zero (p1 - q1) (p2 - q2)
  obtain ⟨u, v, q, dd, e, P, D, S, E, a', b', s, t, x1, x2, x3, x4, x5, x6, x7, x8, x9, x10, x11, x12, x13, x14, x15, x16, x17, x18, x19⟩ := lens_fact _ _ _ _ n hNe hXe f1 f2 f3 f4 f5 f6 hn1 hn2
  have pn1 := prod_abs (a := p1) (b := n) (m := 1000) (n := 30) hp1 (by omega)
  have pn2 := prod_abs (a := p2) (b := n) (m := 1000) (n := 30) hp2 (by omega)
  have qn1 := prod_abs (a := q1) (b := n) (m := 1000) (n := 30) hq1 (by omega)
  have qn2 := prod_abs (a := q2) (b := n) (m := 1000) (n := 30) hq2 (by omega)
  have L1 := Len_far p1 p2 q1 q2 1000 (by omega) hp hq _ rfl u x1
  have L2 := Len_far q1 q2 p1 p2 1000 (by omega) hq hp _ hQe u x1
  have L3 := Len_far (p1 * n) (p2 * n) (q1 * n) (q2 * n) 30000 (by omega) ⟨pn1, pn2⟩ ⟨qn1, qn2⟩ _ hMe v x2
  have L4 := Len_far p1 p2 o1 o2 1000 (by omega) hp ho _ rfl a' x3
  have L5 := Len_far o1 o2 q1 q2 1000 (by omega) ho hq _ rfl b' x4
  have A1 := Abs_walk dd (Ieee.double.sub_lt x6)
  have A2 := Abs_walk D (Ieee.double.sub_lt x10)
  generalize dd % 2 ^ 63 = dA at *
  generalize D % 2 ^ 63 = DA at *
  have i5 : ∀ t w, (binOp .mul t (.float .f64 u) (.float .f64 u)).run Try.prog w = .ok (.float .f64 q) w := fun t w => run_float_arith w .mul t .f64 _ _ _ x5
  have i6 : ∀ t w, (binOp .sub t (.float .f64 q) (.float .f64 (I ((p1 - q1) * (p1 - q1) + (p2 - q2) * (p2 - q2))))).run Try.prog w = .ok (.float .f64 dd) w := fun t w => run_float_arith w .sub t .f64 _ _ _ x6
  have i7 : ∀ t w, (binOp .mul t (.float .f64 4472406533629990549) (.float .f64 (I ((p1 - q1) * (p1 - q1) + (p2 - q2) * (p2 - q2))))).run Try.prog w = .ok (.float .f64 e) w := fun t w => run_float_arith w .mul t .f64 _ _ _ x7
  have i9 : ∀ t w, (binOp .mul t (.float .f64 u) (.float .f64 (floatOfInt .f64 n))).run Try.prog w = .ok (.float .f64 P) w := fun t w => run_float_arith w .mul t .f64 _ _ _ x9
  have i10 : ∀ t w, (binOp .sub t (.float .f64 v) (.float .f64 P)).run Try.prog w = .ok (.float .f64 D) w := fun t w => run_float_arith w .sub t .f64 _ _ _ x10
  have i11 : ∀ t w, (binOp .add t (.float .f64 v) (.float .f64 4607182418800017408)).run Try.prog w = .ok (.float .f64 S) w := fun t w => run_float_arith w .add t .f64 _ _ _ x11
  have i12 : ∀ t w, (binOp .mul t (.float .f64 4472406533629990549) (.float .f64 S)).run Try.prog w = .ok (.float .f64 E) w := fun t w => run_float_arith w .mul t .f64 _ _ _ x12
  have i14 : ∀ t w, (binOp .add t (.float .f64 a') (.float .f64 b')).run Try.prog w = .ok (.float .f64 s) w := fun t w => run_float_arith w .add t .f64 _ _ _ x14
  have i15 : ∀ ty w, (binOp .mul ty (.float .f64 u) (.float .f64 4607182418800008401)).run Try.prog w = .ok (.float .f64 t) w := fun ty w => run_float_arith w .mul ty .f64 _ _ _ x15
  have g8 : (FloatKind.f64.format.order dA e == some Ordering.lt || FloatKind.f64.format.order dA e == some Ordering.eq) = true := x8
  have g13 : (FloatKind.f64.format.order DA E == some Ordering.lt || FloatKind.f64.format.order DA E == some Ordering.eq) = true := x13
  have g16 : (FloatKind.f64.format.order s t == some Ordering.gt || FloatKind.f64.format.order s t == some Ordering.eq) = true := x16
  have g17 : (FloatKind.f64.format.order u u == some Ordering.eq) = true := by rw [eq_hyp x17]; rfl
  obtain ⟨bq, g18, g19⟩ : ∃ bq : Bool, (FloatKind.f64.format.order u 0 == some Ordering.eq) = bq ∧ ((FloatKind.f64.format.order (I p1) (I q1) == some Ordering.eq) && (FloatKind.f64.format.order (I p2) (I q2) == some Ordering.eq)) = bq := by
    by_cases c : (p1 - q1) * (p1 - q1) + (p2 - q2) * (p2 - q2) = 0
    · obtain ⟨z1, z2⟩ := hz c
      have w1 : p1 = q1 := by omega
      have w2 : p2 = q2 := by omega
      refine ⟨true, by rw [eq_hyp (x18 c)]; rfl, ?_⟩
      rw [w1, w2, ord q1 q1 (by omega) (by omega), ord q2 q2 (by omega) (by omega), cmp_eq, cmp_eq]; rfl
    · refine ⟨false, by rw [eq_hyp (x19 c)]; rfl, ?_⟩
      by_cases w1 : p1 = q1
      · have w2 : p2 ≠ q2 := by
          intro w2
          apply c
          rw [w1, w2, Int.sub_self, Int.sub_self]; rfl
        rw [ord p2 q2 (by omega) (by omega)]
        rcases Int.lt_or_gt_of_ne w2 with h | h
        · rw [cmp_lt h]; simp
        · rw [cmp_gt h]; simp
      · rw [ord p1 q1 (by omega) (by omega)]
        rcases Int.lt_or_gt_of_ne w1 with h | h
        · rw [cmp_lt h]; simp
        · rw [cmp_gt h]; simp
  clear x1 x2 x3 x4 x5 x6 x7 x8 x9 x10 x11 x12 x13 x14 x15 x16 x17 x18 x19 hz hNe hXe hMe hQe f1 f2 f3 f4 f5 f6 b1 b2 pn1 pn2 qn1 qn2 hn1 hn2 hp1 hp2 hq1 hq2 hn hp hq ho
  go_wp2_with (first
    | (simp only [s0]) | (simp only [m1]) | (simp only [m2]) | (simp only [a1])
    | (simp only [i5]) | (simp only [i6]) | (simp only [i7]) | (simp only [i9]) | (simp only [i10]) | (simp only [i11]) | (simp only [i12]) | (simp only [i14]) | (simp only [i15])
    | (go_at_call 10; (with_reducible refine (T1 _).mono ?_); rintro e w' ⟨rfl, rfl⟩)
    | (go_at_call 10; (with_reducible refine (T2 _).mono ?_); rintro e w' ⟨rfl, rfl⟩)
    | (go_at_call 11; (with_reducible refine (L1 _).mono ?_); rintro e w' ⟨rfl, rfl⟩)
    | (go_at_call 11; (with_reducible refine (L2 _).mono ?_); rintro e w' ⟨rfl, rfl⟩)
    | (go_at_call 11; (with_reducible refine (L3 _).mono ?_); rintro e w' ⟨rfl, rfl⟩)
    | (go_at_call 11; (with_reducible refine (L4 _).mono ?_); rintro e w' ⟨rfl, rfl⟩)
    | (go_at_call 11; (with_reducible refine (L5 _).mono ?_); rintro e w' ⟨rfl, rfl⟩)
    | (go_at_call 16; (with_reducible refine (A1 _).mono ?_); rintro e w' ⟨rfl, rfl⟩)
    | (go_at_call 16; (with_reducible refine (A2 _).mono ?_); rintro e w' ⟨rfl, rfl⟩)
    | (go_at_call 13; (with_reducible refine (awake_walk _).mono ?_); rintro e w' ⟨rfl, hb⟩; have hB := Kept.mk hb; clear hb))
  all_goals (go_ret; exact ⟨rfl, hB.out⟩)

end Go.Proofs.Ytlffbdfkanibcaa.Pt
