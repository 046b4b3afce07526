/-
  The walk of RasterWays: it returns true. No condition.
-/
import Derived.Test.YthhhcfipmeganaaRt
namespace Go.Proofs.Ythhhcfipmeganaa.Rd
open Go.RowKit Go.Proofs.YthhhcfipmeganaaW.PrintWords Go.Proofs.YthhhcfipmeganaaW.PrintLast Go.Proofs.YthhhcfipmeganaaW.PrintMore
open Fl Ra
set_option linter.unusedSimpArgs false
set_option linter.unusedVariables false

theorem Low_801 (x : Int) (w : World) : Calls Try.prog 6 #[.int .i64 x, .int .i64 801] w fun e w' => ∃ v : Int, -400 ≤ v ∧ v ≤ 400 ∧ e = .returned (.int .i64 (v + 400)) ∧ w = w' := by
  refine (Low_walk x 801 (by decide) (by decide) w).mono ?_
  rintro e w' ⟨v, h1, h2, rfl, rfl⟩
  exact ⟨v - 400, by omega, by omega, by congr 2; omega, rfl⟩
theorem selfeq (a : Int) (h : a.natAbs < 2 ^ 53) : (FloatKind.f64.format.order (I a) (I a) == some Ordering.eq) = true := by rw [ord a a h h, cmp_eq]; rfl
theorem c_one : (4607182418800017408 : Nat) = I 1 := by decide +kernel
theorem sq_small (d : Int) (h : -1 ≤ d ∧ d ≤ 1) : d * d ≤ 1 ∧ 0 ≤ d * d := by
  have : d = -1 ∨ d = 0 ∨ d = 1 := by omega
  rcases this with rfl | rfl | rfl <;> decide
theorem gt_one (d : Int) (h : -1 ≤ d ∧ d ≤ 1) : (FloatKind.f64.format.order (I (d * d)) 4607182418800017408 == some Ordering.gt) = false := by
  have := sq_small d h
  rw [c_one, ord (d * d) 1 (by omega) (by decide)]
  rcases Int.lt_or_eq_of_le this.1 with h | h
  · rw [cmp_lt h]; rfl
  · rw [h, cmp_eq]; rfl
theorem is_zero (d : Int) (h : d.natAbs < 2 ^ 53) (h0 : d = 0) : (FloatKind.f64.format.order (I d) 0 == some Ordering.eq) = true := by
  subst h0; decide +kernel
theorem not_zero (d : Int) (h : d.natAbs < 2 ^ 53) (h0 : d ≠ 0) : (FloatKind.f64.format.order (I d) 0 == some Ordering.eq) = false := by
  have e : FloatKind.f64.format.order (I d) (I 0) = _ := ord d 0 h (by decide)
  rw [I_zero] at e
  rw [e]
  rcases Int.lt_or_gt_of_ne h0 with h | h
  · rw [cmp_lt h]; rfl
  · rw [cmp_gt h]; rfl
theorem fsub (a b : Int) (ha : a.natAbs < 2 ^ 50) (hb : b.natAbs < 2 ^ 50) (t : TypeId) (w : World) : (binOp .sub t (.float .f64 (I a)) (.float .f64 (I b))).run Try.prog w = .ok (.float .f64 (I (a - b))) w :=
  run_float_arith w .sub t .f64 _ _ _ (sub_I (by omega) (by omega) (by omega))
theorem sq_mul (d : Int) (h : -1 ≤ d ∧ d ≤ 1) (t : TypeId) (w : World) : (binOp .mul t (.float .f64 (I d)) (.float .f64 (I d))).run Try.prog w = .ok (.float .f64 (I (d * d))) w := by
  have : d = -1 ∨ d = 0 ∨ d = 1 := by omega
  refine run_float_arith w .mul t .f64 _ _ _ ?_
  rcases this with rfl | rfl | rfl <;> decide +kernel

theorem dn_400 (x1 x2 x3 x4 : Int) (h1 : -400 ≤ x1 ∧ x1 ≤ 400) (h2 : -400 ≤ x2 ∧ x2 ≤ 400) (h3 : -400 ≤ x3 ∧ x3 ≤ 400) (h4 : -400 ≤ x4 ∧ x4 ≤ 400) : dn (x1, x2) (x3, x4) ≤ 900 := by
  unfold dn; simp only; omega

set_option maxRecDepth 100000 in
set_option maxHeartbeats 8000000 in
theorem Ways_walk (a b c d : Int) (w : World) : Calls Try.prog 3 #[.int .i64 a, .int .i64 b, .int .i64 c, .int .i64 d] w fun e w' => e = .returned (.bool true) ∧ Below w.heap.size w w' := by
  go_enter Try.func3, Try.ntmps3
  go_wp2_with (first
    | simp only [float_I]
    | (go_at_call 6; (with_reducible refine (Low_801 a _).mono ?_); rintro e w' ⟨x1, l1, u1, rfl, rfl⟩)
    | (go_at_call 6; (with_reducible refine (Low_801 b _).mono ?_); rintro e w' ⟨x2, l2, u2, rfl, rfl⟩)
    | (go_at_call 6; (with_reducible refine (Low_801 c _).mono ?_); rintro e w' ⟨x3, l3, u3, rfl, rfl⟩)
    | (go_at_call 6; (with_reducible refine (Low_801 d _).mono ?_); rintro e w' ⟨x4, l4, u4, rfl, rfl⟩))
  have b900 := dn_400 x1 x2 x3 x4 ⟨l1, u1⟩ ⟨l2, u2⟩ ⟨l3, u3⟩ ⟨l4, u4⟩
  have hsy := dn_sym (x3, x4) (x1, x2)
  have hP : InP (x1, x2) := ⟨by unfold In; simp only; omega, by unfold In; simp only; omega⟩
  have hQ : InP (x3, x4) := ⟨by unfold In; simp only; omega, by unfold In; simp only; omega⟩
  obtain ⟨n, hn⟩ : ∃ n, n = dn (x1, x2) (x3, x4) := ⟨_, rfl⟩
  have hD1 : Kept (∀ w, Calls Try.prog 7 #[.complex .f64 (I x1) (I x2), .complex .f64 (I x3) (I x4)] w fun e w' => ∃ gl cl, e = .returned (.tuple #[.slice (some ⟨gl, 0, none⟩) (n + 1) cl, .bool true]) ∧ PtsAt w' gl (path (x1, x2) (x3, x4)) ∧ Below w.heap.size w w') := by
    refine ⟨fun w => (Dots_walk (x1, x2) (x3, x4) hP hQ b900 w).mono ?_⟩
    rintro e w' ⟨v, rfl, hown, hb⟩
    rw [← hn] at hown
    obtain ⟨gl, cl, rfl, hgl, hgl2⟩ := hown.form (by omega)
    exact ⟨gl, cl, rfl, pts_own _ hown (by rw [path_len, hn]) hgl2, hb⟩
  have hD2 : Kept (∀ w, Calls Try.prog 7 #[.complex .f64 (I x3) (I x4), .complex .f64 (I x1) (I x2)] w fun e w' => ∃ gl cl, e = .returned (.tuple #[.slice (some ⟨gl, 0, none⟩) (n + 1) cl, .bool true]) ∧ Below w.heap.size w w') := by
    refine ⟨fun w => (Dots_walk (x3, x4) (x1, x2) hQ hP (by rw [hsy]; exact b900) w).mono ?_⟩
    rintro e w' ⟨v, rfl, hown, hb⟩
    rw [hsy, ← hn] at hown
    obtain ⟨gl, cl, rfl, hgl, hgl2⟩ := hown.form (by omega)
    exact ⟨gl, cl, rfl, hb⟩
  rw [← hn] at b900
  have hnK := Kept.mk hn
  have hPK := Kept.mk hP
  have hQK := Kept.mk hQ
  have e1 := selfeq x1 (by omega)
  have e2 := selfeq x2 (by omega)
  have e3 := selfeq x3 (by omega)
  have e4 := selfeq x4 (by omega)
  clear hn hsy hP hQ
  go_wp2_with (first
    | (go_at_call 7; (with_reducible refine (hD1.out _).mono ?_); rintro e w1 ⟨gl, cl, rfl, hp1, hb⟩; have HP1 := Kept.mk hp1; have HB1 := Kept.mk hb; clear hp1 hb)
    | (go_at_call 7; (with_reducible refine (hD2.out _).mono ?_); rintro e w2 ⟨gm, cm, rfl, hb⟩; have HP2 := Kept.mk (HP1.out.below hb); have HB2 := Kept.mk (bel_step HB1.out hb); clear hb; have q0 : w2.cell? ⟨gl, 0, none⟩ = some (.complex .f64 (I x1) (I x2)) := (by have h := HP2.out.cell 0 (by rw [path_len]; omega); rw [path_get _ _ _ _ (by omega), step_zero] at h; exact h); have qn : w2.cell? ⟨gl, n, none⟩ = some (.complex .f64 (I x3) (I x4)) := (by have h := HP2.out.cell n (by rw [path_len, ← hnK.out]; omega); rw [path_get _ _ _ _ (by rw [← hnK.out]; omega), hnK.out, step_full, ← hnK.out] at h; exact h)))
  clear q0 qn e1 e2 e3 e4 HP1 HB1 hD1 hD2
  go_loopw [15] (fun i wr => ∃ m : Nat, m ≤ n ∧ i = .int .i64 ((m : Int) + 1) ∧ Kept (Below w2.heap.size w2 wr)) (fun i _ => n + 1 - (intOf i).toNat)
  case atStart => exact ⟨0, Nat.zero_le _, rfl, ⟨Below.refl _ _⟩⟩
  case round =>
    obtain ⟨m, hm, rfl, hB⟩ := hrel
    by_cases hlt : m < n
    · have c1 := (HP2.out.below hB.out).cell (m + 1) (by rw [path_len, ← hnK.out]; omega)
      have c0 := (HP2.out.below hB.out).cell m (by rw [path_len, ← hnK.out]; omega)
      rw [path_get _ _ _ _ (by rw [← hnK.out]; omega)] at c1 c0
      have hone := step_one (x1, x2) (x3, x4) m (by rw [← hnK.out]; exact hlt)
      have hi1 := step_in (x1, x2) (x3, x4) hPK.out hQK.out (m + 1) (by rw [← hnK.out]; omega)
      have hi0 := step_in (x1, x2) (x3, x4) hPK.out hQK.out m (by rw [← hnK.out]; omega)
      generalize stepV (x1, x2) (x3, x4) (m + 1) = y at *
      generalize stepV (x1, x2) (x3, x4) m = z at *
      obtain ⟨y1, y2⟩ := y
      obtain ⟨z1, z2⟩ := z
      obtain ⟨hd1, hd2, hd3⟩ := hone
      simp only at hd1 hd2 hd3
      have hMy : Kept (∀ w, Calls Try.prog 8 #[.complex .f64 (I y1) (I y2)] w fun e w' => e = .returned (.bool true) ∧ w' = w) := ⟨fun w => May_in y1 y2 hi1.1 hi1.2 w⟩
      have ii1 : In y1 := hi1.1
      have ii2 : In y2 := hi1.2
      have ii3 : In z1 := hi0.1
      have ii4 : In z2 := hi0.2
      unfold In at ii1 ii2 ii3 ii4
      have o1 := fsub y1 z1 (by omega) (by omega)
      have o2 := fsub y2 z2 (by omega) (by omega)
      have c1' : wr.cell? ⟨gl, m + 1, none⟩ = some (.complex .f64 (I y1) (I y2)) := c1
      have c0' : wr.cell? ⟨gl, m, none⟩ = some (.complex .f64 (I z1) (I z2)) := c0
      clear c1 c0 hi1 hi0 ii1 ii2 ii3 ii4
      go_wp2
      go_quiet (fail)
      have hB4 : Kept (Below w2.heap.size w2 (wr.drewN nq)) := ⟨below_drewN hB.out nq⟩
      have d1' : (wr.drewN nq).cell? ⟨gl, m + 1, none⟩ = some (.complex .f64 (I y1) (I y2)) := c1'
      clear c1' c0' o1 o2
      generalize wr.drewN nq = w5 at *
      generalize y1 - z1 = u at *
      generalize y2 - z2 = v at *
      have s1 := sq_mul u hd1
      have s2 := sq_mul v hd2
      have g1 := gt_one u hd1
      have g2 := gt_one v hd2
      by_cases hu : u = 0
      · have t1 := is_zero u (by omega) hu
        have t2 := not_zero v (by omega) (fun h => hd3 ⟨hu, h⟩)
        clear hu hd3
        go_wp2_with (first
          | simp only [s1] | simp only [s2]
          | (go_at_call 8; (with_reducible refine (hMy.out _).mono ?_); rintro e w' ⟨rfl, hw⟩; have hw := hw.symm; subst hw))
        go_roundw
        case rel => exact ⟨m + 1, by omega, by go_num, hB4⟩
        case measure => simp [intOf]; omega
      · have t1 := not_zero u (by omega) hu
        clear hu hd3
        go_wp2_with (first
          | simp only [s1] | simp only [s2]
          | (go_at_call 8; (with_reducible refine (hMy.out _).mono ?_); rintro e w' ⟨rfl, hw⟩; have hw := hw.symm; subst hw))
        go_roundw
        case rel => exact ⟨m + 1, by omega, by go_num, hB4⟩
        case measure => simp [intOf]; omega
    · have hme : n = m := by omega
      subst hme
      clear hlt hm
      have HB3 := Kept.mk (bel_step HB2.out hB.out)
      go_wp2_with (go_at_call 9; (with_reducible refine (awake_walk _).mono ?_); rintro e w9 ⟨rfl, hb⟩; have HB9 := Kept.mk (bel_step HB3.out hb); clear hb)
      all_goals (go_ret; exact ⟨rfl, HB9.out⟩)
end Go.Proofs.Ythhhcfipmeganaa.Rd
