/-
  The walk of PointSquares: it returns true. No condition.
-/
import Derived.Test.YtlffbdfkanibcaaQr
import Derived.Test.YtlffbdfkanibcaaFo
namespace Go.Proofs.Ytlffbdfkanibcaa.Pt
open Fl Fr Go.RowKit
set_option linter.unusedSimpArgs false
set_option linter.unusedVariables false

theorem cent_read : Ieee.double.read 4576918229304087675 = .number false 5764607523034235 (-59) := by decide +kernel
theorem mcent_read : Ieee.double.read 13800290266158863483 = .number true 5764607523034235 (-59) := by decide +kernel
theorem cent_big : tw (-8) ≤ vl false 5764607523034235 (-59) := by
  have := vl_low 5764607523034235 (-59) (by decide)
  have h : (5764607523034235 : Nat).log2 = 52 := by decide +kernel
  rw [h] at this
  exact Rat.le_trans (tw_mono (by decide)) this

theorem small_num (N : Int) (h : N ≤ 80000) : (N : Rat) ≤ tw 17 := by
  have e : tw ((17 : Nat) : Int) = ((2 ^ 17 : Nat) : Rat) := tw_nat 17
  have e2 : tw (17 : Int) = ((131072 : Int) : Rat) := e
  rw [e2]
  exact Rat.intCast_le_intCast.2 (by omega)

/-- The square of a rounded root is near. -/
theorem sq_fact (N : Int) (h0 : 0 ≤ N) (h1 : N ≤ 80000) : ∃ r q d1 d2, Ieee.double.sqrt (I N) = some r ∧ Ieee.double.mul r r = some q ∧ Ieee.double.sub (I N) q = some d1 ∧ Ieee.double.sub q (I N) = some d2 ∧
    Ieee.double.order d1 4576918229304087675 = some .lt ∧ Ieee.double.order d2 4576918229304087675 = some .lt ∧ Ieee.double.order d2 13800290266158863483 = some .gt ∧ Ieee.double.order r r = some .eq := by
  by_cases hz : N = 0
  · subst hz
    rw [I_zero]
    exact ⟨0, 0, 0, 0, by decide +kernel, by decide +kernel, by decide +kernel, by decide +kernel, by decide +kernel, by decide +kernel, by decide +kernel, by decide +kernel⟩
  · have hN1 : (1 : Rat) ≤ (N : Rat) := by
      have : ((1 : Int) : Rat) ≤ (N : Rat) := Rat.intCast_le_intCast.2 (by omega)
      exact this
    have hN17 := small_num N h1
    have hv := I_val N (by omega)
    obtain ⟨r0, hr0, hrr⟩ := sqrt_there N h0 (by omega)
    have hone : tw (-500) ≤ 1 := by rw [← tw_zero]; exact tw_mono (by decide)
    have h17 : tw 17 ≤ tw 500 := tw_mono (by decide)
    obtain ⟨r, w, hr, hw, hw0, hclose⟩ := sqrt_val hv (Rat.le_trans hone hN1) (Rat.le_trans hN17 h17)
    have : r0 = r := by rw [hr0] at hr; exact Option.some.inj hr
    subst this
    have a1 := le_abs (w * w - (N : Rat))
    have hww : 0 ≤ w * w := Rat.mul_nonneg hw0 hw0
    have e50 : tw (-50) ≤ 1 / 8 := by
      have h1 : tw (-50) ≤ tw (-3) := tw_mono (by decide)
      have h2 : tw (-3) * 8 = 1 := by
        have : (8 : Rat) = tw ((3 : Nat) : Int) := by rw [tw_nat]; rfl
        rw [this, ← tw_add]; exact tw_zero
      generalize tw (-50) = x at *
      generalize tw (-3) = y at *
      grind
    have e50p := tw_pos (-50)
    have e8 : tw (-50) = 8 * eps := by
      have : (8 : Rat) = tw ((3 : Nat) : Int) := by rw [tw_nat]; rfl
      unfold eps
      rw [this, ← tw_add]; congr 1
    have hE := eps_pos
    have b1 : 0 ≤ (N : Rat) * (1 / 8 - tw (-50)) := Rat.mul_nonneg (by grind) (by grind)
    have hlow : 1 / 2 ≤ w * w := by
      generalize tw (-50) = x at *
      generalize (w * w - (N : Rat)).abs = y at *
      grind
    have hhigh : w * w ≤ 2 * (N : Rat) := by
      generalize tw (-50) = x at *
      generalize (w * w - (N : Rat)).abs = y at *
      grind
    have h18 : 4 * tw 17 ≤ tw 800 := by
      have : (4 : Rat) = tw ((2 : Nat) : Int) := by rw [tw_nat]; rfl
      rw [this, ← tw_add]; exact tw_mono (by decide)
    have hhalf : tw (-1000) ≤ 1 / 2 := by
      have h1 : tw (-1000) ≤ tw (-1) := tw_mono (by decide)
      have h2 : tw (-1) * 2 = 1 := by
        rw [← tw_one, ← tw_add]; exact tw_zero
      generalize tw (-1000) = x at *
      generalize tw (-1) = y at *
      grind
    have habs : (w * w).abs = w * w := Rat.abs_of_nonneg hww
    obtain ⟨q, v, hq, hqv, hqc⟩ := mul_val hw hw (.inr (by rw [habs]; exact Rat.le_trans hhalf hlow)) (by
      rw [habs]; generalize tw 800 = x at *; generalize tw 17 = y at *; grind)
    rw [habs] at hqc
    have a2 := le_abs (v - w * w)
    -- how far the square is from the number
    have hd : ((N : Rat) - v).abs ≤ (N : Rat) * (16 * eps) := by
      have p1 : 0 ≤ (2 * (N : Rat) - w * w) * eps := Rat.mul_nonneg (by grind) (Rat.le_of_lt hE)
      rw [e8] at hclose
      generalize (w * w - (N : Rat)).abs = y at *
      generalize (v - w * w).abs = z at *
      have p2 : 0 ≤ (N : Rat) * eps := Rat.mul_nonneg (by grind) (Rat.le_of_lt hE)
      clear h18 hhalf e50 hone h17 b1 e8 e50p
      exact abs_le (by grind) (by grind)
    have hd2 : (v - (N : Rat)).abs ≤ (N : Rat) * (16 * eps) := by
      rw [Rat.abs_sub_comm]; exact hd
    have hsm : (N : Rat) * (16 * eps) ≤ tw (-32) := by
      have : tw 17 * (16 * eps) = tw (-32) := by
        have : (16 : Rat) = tw ((4 : Nat) : Int) := by rw [tw_nat]; rfl
        unfold eps
        rw [this, ← tw_add, ← tw_add]; congr 1
      rw [← this]
      exact Rat.mul_le_mul_of_nonneg_right hN17 (by grind)
    have h32 : tw (-32) ≤ tw 800 := tw_mono (by decide)
    obtain ⟨d1, v1, hd1, hv1, hc1⟩ := sub_val hv hqv (Rat.le_trans hd (Rat.le_trans hsm h32))
    obtain ⟨d2, v2, hd2', hv2, hc2⟩ := sub_val hqv hv (Rat.le_trans hd2 (Rat.le_trans hsm h32))
    have hcent : Val 4576918229304087675 (vl false 5764607523034235 (-59)) := ⟨_, _, _, cent_read, by decide, rfl⟩
    have hmcent : Val 13800290266158863483 (vl true 5764607523034235 (-59)) := ⟨_, _, _, mcent_read, by decide, rfl⟩
    have hcb := cent_big
    have hvt : vl true 5764607523034235 (-59) = -(vl false 5764607523034235 (-59)) := by rw [vl_true, vl_false]
    have h88 : 2 * tw (-32) < tw (-8) := by
      have : 2 * tw (-32) = tw (-31) := by rw [← tw_one, ← tw_add]; congr 1
      have h2 : tw (-8) = tw (-31) * tw ((23 : Nat) : Int) := by rw [← tw_add]; congr 1
      rw [this, h2, tw_nat]
      have h3 := tw_pos (-31)
      have h4 : (((2 : Nat) ^ 23 : Nat) : Rat) = 8388608 := by decide +kernel
      rw [h4]
      generalize tw (-31) = x at *
      grind
    have hep := eps_le
    have key : ∀ (d x : Rat), d.abs ≤ (N : Rat) * (16 * eps) → (x - d).abs ≤ d.abs * eps → x < tw (-8) ∧ -(tw (-8)) < x := by
      intro d x h1 h2
      have a3 := le_abs d
      have a4 := le_abs (x - d)
      have h5 : d.abs ≤ tw (-32) := Rat.le_trans h1 hsm
      have h6 : 0 ≤ d.abs := Rat.abs_nonneg
      have h7 : 0 ≤ d.abs * (1 / 8 - eps) := Rat.mul_nonneg h6 (by grind)
      clear hcb hvt hcent hmcent hsm hd hd2 hc1 hc2 h32 hqc hclose a1 a2 h18 hhalf e50 hone h17 b1 e8 e50p
      generalize tw (-32) = p at *
      generalize tw (-8) = p2 at *
      generalize d.abs = y at *
      generalize (x - d).abs = z at *
      constructor <;> grind
    obtain ⟨k1, k1'⟩ := key _ _ hd hc1
    obtain ⟨k2, k2'⟩ := key _ _ hd2 hc2
    refine ⟨r0, q, d1, d2, hr0, hq, hd1, hd2', lt_val hv1 hcent (lt_le k1 hcb), lt_val hv2 hcent (lt_le k2 hcb), gt_val hv2 hmcent ?_, hrr⟩
    rw [hvt]
    generalize vl false 5764607523034235 (-59) = c at *
    generalize tw (-8) = p2 at *
    clear hcent hmcent hv1 hv2
    grind

theorem conj_turn (a b : Int) (h : Kept (a.natAbs ≤ 100 ∧ b.natAbs ≤ 100)) (w : World) :
    Calls Try.prog 10 #[C a b, C a (-b)] w fun r w' => r = .returned (.tuple #[C (a * a + b * b) 0, .bool true]) ∧ w' = w := by
  obtain ⟨h1, h2⟩ := h.out
  have p1 := prod_abs h1 h1
  have p2 := prod_abs h2 h2
  exact Turn_in a b a (-b) (by unfold In; omega) (by unfold In; omega) (by unfold In; omega) (by unfold In; omega) _ _ (by rw [Int.mul_neg]; omega) (by rw [Int.mul_neg, Int.mul_comm b a]; omega) (by unfold In; omega) (by decide) w

theorem far_nonneg (a b c d : Int) (m : Nat) (hm : m ≤ 100) (h : Kept (a.natAbs ≤ m ∧ b.natAbs ≤ m)) (h' : Kept (c.natAbs ≤ m ∧ d.natAbs ≤ m)) :
    0 ≤ (a - c) * (a - c) + (b - d) * (b - d) ∧ (a - c) * (a - c) + (b - d) * (b - d) ≤ 80000 := by
  obtain ⟨h1, h2⟩ := h.out
  obtain ⟨h3, h4⟩ := h'.out
  have p1 := prod_abs (a := a - c) (b := a - c) (m := 200) (n := 200) (by omega) (by omega)
  have p2 := prod_abs (a := b - d) (b := b - d) (m := 200) (n := 200) (by omega) (by omega)
  have q1 := sq_nn (a - c)
  have q2 := sq_nn (b - d)
  omega

theorem sub_run (a b : Int) (ha : a.natAbs < 2 ^ 52) (hb : b.natAbs < 2 ^ 52) (t : TypeId) (w : World) : (binOp .sub t (.float .f64 (I a)) (.float .f64 (I b))).run Try.prog w = .ok (.float .f64 (I (a - b))) w :=
  run_float_arith w .sub t .f64 _ _ _ (sub_I (a := a) (b := b) (by omega) (by omega) (by omega))
theorem neg_run (b : Int) (hb : b.natAbs < 2 ^ 52) (t : TypeId) (w : World) : (binOp .sub t (.float .f64 0) (.float .f64 (I b))).run Try.prog w = .ok (.float .f64 (I (-b))) w := by
  have := sub_run 0 b (by decide) hb t w
  rw [I_zero, Int.zero_sub] at this
  exact this
theorem sq_run (a : Int) (ha : a.natAbs ≤ 65535) (t : TypeId) (w : World) : (binOp .mul t (.float .f64 (I a)) (.float .f64 (I a))).run Try.prog w = .ok (.float .f64 (I (a * a))) w :=
  run_float_arith w .mul t .f64 _ _ _ (sq_I a 65535 ha (by decide) (by decide))
theorem add_run (a b : Int) (ha : a.natAbs < 2 ^ 52) (hb : b.natAbs < 2 ^ 52) (t : TypeId) (w : World) : (binOp .add t (.float .f64 (I a)) (.float .f64 (I b))).run Try.prog w = .ok (.float .f64 (I (a + b))) w :=
  run_float_arith w .add t .f64 _ _ _ (add_I (a := a) (b := b) (by omega) (by omega) (by omega))

theorem Squares_walk (a b c d : Int) (w : World) :
    Calls Try.prog 7 #[.int .i64 a, .int .i64 b, .int .i64 c, .int .i64 d] w fun r w' => r = .returned (.bool true) ∧ Below w.heap.size w w' := by
  go_enter Try.func7, Try.ntmps7
  go_wp2_with (first
    | (go_at_call 9; (with_reducible refine (of_ex 100 100 a b (by omega) (by omega) (by omega) _).mono ?_); rintro e w' ⟨p1, p2, hp, rfl, rfl⟩)
    | (go_at_call 9; (with_reducible refine (of_ex 100 100 c d (by omega) (by omega) (by omega) _).mono ?_); rintro e w' ⟨q1, q2, hq, rfl, rfl⟩))
  have hp1 := hp.out.1
  have hp2 := hp.out.2
  have hq1 := hq.out.1
  have hq2 := hq.out.2
  have n1 := neg_run p2 (by omega)
  have n2 := neg_run q1 (by omega)
  have n3 := neg_run q2 (by omega)
  have s1 := sub_run p1 q1 (by omega) (by omega)
  have s2 := sub_run p2 q2 (by omega) (by omega)
  have m1 := sq_run (p1 - q1) (by omega)
  have m2 := sq_run (p2 - q2) (by omega)
  have b1 := prod_abs (a := p1 - q1) (b := p1 - q1) (m := 200) (n := 200) (by omega) (by omega)
  have b2 := prod_abs (a := p2 - q2) (b := p2 - q2) (m := 200) (n := 200) (by omega) (by omega)
  have a1 := add_run ((p1 - q1) * (p1 - q1)) ((p2 - q2) * (p2 - q2)) (by omega) (by omega)
  have hzz : Kept ((0 : Int).natAbs ≤ 100 ∧ (0 : Int).natAbs ≤ 100) := ⟨by decide, by decide⟩
  obtain ⟨f1, f2⟩ := far_nonneg p1 p2 0 0 100 (by omega) hp hzz
  obtain ⟨f3, f4⟩ := far_nonneg p1 p2 q1 q2 100 (by omega) hp hq
  have e0 : (p1 - 0) * (p1 - 0) + (p2 - 0) * (p2 - 0) = p1 * p1 + p2 * p2 := by rw [Int.sub_zero, Int.sub_zero]
  have e1 : (0 - p1) * (0 - p1) + (0 - p2) * (0 - p2) = p1 * p1 + p2 * p2 := by rw [Int.zero_sub, Int.zero_sub, Int.neg_mul_neg, Int.neg_mul_neg]
  have e2 : (q1 - p1) * (q1 - p1) + (q2 - p2) * (q2 - p2) = (p1 - q1) * (p1 - q1) + (p2 - q2) * (p2 - q2) := by
    rw [← Int.neg_mul_neg (q1 - p1), ← Int.neg_mul_neg (q2 - p2), Int.neg_sub, Int.neg_sub]
  rw [e0] at f1 f2
  obtain ⟨r, q, d1, d2, x1, x2, x3, x4, x5, x6, x7, x8⟩ := sq_fact _ f1 f2
  obtain ⟨r', q', d1', d2', y1, y2, y3, y4, y5, y6, y7, y8⟩ := sq_fact _ f3 f4
  have L1 : ∀ w, Calls Try.prog 11 #[.complex .f64 0 0, C p1 p2] w fun e w' => e = .returned (.float .f64 r) ∧ w' = w := by
    intro w
    have := Len_ex 0 0 p1 p2 100 (by omega) hzz hp r ⟨by rw [e1]; exact x1⟩ w
    exact this
  have L2 := Len_ex p1 p2 q1 q2 100 (by omega) hp hq r' ⟨y1⟩
  have L3 := Len_ex q1 q2 p1 p2 100 (by omega) hq hp r' ⟨by rw [e2]; exact y1⟩
  have M1 := fun w => Move_in p1 p2 q1 q2 (by unfold In; omega) (by unfold In; omega) (by unfold In; omega) (by unfold In; omega) (p1 + q1) (p2 + q2) rfl rfl (by unfold In; omega) (by unfold In; omega) w
  have M2 := fun w => Move_in (p1 + q1) (p2 + q2) (-q1) (-q2) (by unfold In; omega) (by unfold In; omega) (by unfold In; omega) (by unfold In; omega) p1 p2 (by omega) (by omega) (by unfold In; omega) (by unfold In; omega) w
  have T1 := conj_turn p1 p2 hp
  have o1 : ∀ t w, (binOp .mul t (.float .f64 r) (.float .f64 r)).run Try.prog w = .ok (.float .f64 q) w := fun t w => run_float_arith w .mul t .f64 _ _ _ x2
  have o2 : ∀ t w, (binOp .sub t (.float .f64 (I (p1 * p1 + p2 * p2))) (.float .f64 q)).run Try.prog w = .ok (.float .f64 d1) w := fun t w => run_float_arith w .sub t .f64 _ _ _ x3
  have o3 : ∀ t w, (binOp .sub t (.float .f64 q) (.float .f64 (I (p1 * p1 + p2 * p2)))).run Try.prog w = .ok (.float .f64 d2) w := fun t w => run_float_arith w .sub t .f64 _ _ _ x4
  have o4 : ∀ t w, (binOp .mul t (.float .f64 r') (.float .f64 r')).run Try.prog w = .ok (.float .f64 q') w := fun t w => run_float_arith w .mul t .f64 _ _ _ y2
  have o5 : ∀ t w, (binOp .sub t (.float .f64 q') (.float .f64 (I ((p1 - q1) * (p1 - q1) + (p2 - q2) * (p2 - q2))))).run Try.prog w = .ok (.float .f64 d2') w := fun t w => run_float_arith w .sub t .f64 _ _ _ y4
  have g1 : (FloatKind.f64.format.order (I 0) 0 == some Ordering.eq) = true := by decide +kernel
  have g2 : (FloatKind.f64.format.order d1 4576918229304087675 == some Ordering.lt) = true := by
    have : FloatKind.f64.format.order d1 4576918229304087675 = some .lt := x5
    rw [this]; rfl
  have g3 : (FloatKind.f64.format.order d2 4576918229304087675 == some Ordering.lt) = true := by
    have : FloatKind.f64.format.order d2 4576918229304087675 = some .lt := x6
    rw [this]; rfl
  have g4 : (FloatKind.f64.format.order d2' 4576918229304087675 == some Ordering.lt) = true := by
    have : FloatKind.f64.format.order d2' 4576918229304087675 = some .lt := y6
    rw [this]; rfl
  have g5 : (FloatKind.f64.format.order d2' 13800290266158863483 == some Ordering.gt) = true := by
    have : FloatKind.f64.format.order d2' 13800290266158863483 = some .gt := y7
    rw [this]; rfl
  have g6 : (FloatKind.f64.format.order r' r' == some Ordering.eq) = true := by
    have : FloatKind.f64.format.order r' r' = some .eq := y8
    rw [this]; rfl
  clear x1 x2 x3 x4 x5 x6 x7 x8 y1 y2 y3 y4 y5 y6 y7 y8 e0 e1 e2 f1 f2 f3 f4 hzz b1 b2 hp1 hp2 hq1 hq2 hp hq
  go_wp2_with (first
    | (simp only [n1]) | (simp only [n2]) | (simp only [n3]) | (simp only [s1]) | (simp only [s2]) | (simp only [m1]) | (simp only [m2]) | (simp only [a1])
    | (simp only [o1]) | (simp only [o2]) | (simp only [o3]) | (simp only [o4]) | (simp only [o5])
    | (go_at_call 10; (with_reducible refine (T1 _).mono ?_); rintro e w' ⟨rfl, rfl⟩)
    | (go_at_call 11; (with_reducible refine (L1 _).mono ?_); rintro e w' ⟨rfl, rfl⟩)
    | (go_at_call 11; (with_reducible refine (L2 _).mono ?_); rintro e w' ⟨rfl, rfl⟩)
    | (go_at_call 11; (with_reducible refine (L3 _).mono ?_); rintro e w' ⟨rfl, rfl⟩)
    | (go_at_call 17; (with_reducible refine (M1 _).mono ?_); rintro e w' ⟨rfl, rfl⟩)
    | (go_at_call 17; (with_reducible refine (M2 _).mono ?_); rintro e w' ⟨rfl, rfl⟩)
    | (go_at_call 12; (with_reducible refine (SamePoint_same (I p1) (I p2) _).mono ?_); rintro e w' ⟨rfl, rfl⟩)
    | (go_at_call 13; (with_reducible refine (awake_walk _).mono ?_); rintro e w' ⟨rfl, hb⟩; have hB := Kept.mk hb; clear hb))
  all_goals (go_ret; exact ⟨rfl, hB.out⟩)

end Go.Proofs.Ytlffbdfkanibcaa.Pt
