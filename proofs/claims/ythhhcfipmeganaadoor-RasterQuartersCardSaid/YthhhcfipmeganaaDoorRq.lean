/-
  The walk of the pen's dot. No condition beyond the numbers' bounds.
-/
import Derived.Test.YthhhcfipmeganaaDoorRp
import Derived.StillTailTactics
namespace Go.Proofs.YthhhcfipmeganaaDoor.Rd
open Go.RowKit Go.Proofs.YthhhcfipmeganaaDoorW.PrintWords Go.Proofs.YthhhcfipmeganaaDoorW.PrintLast Go.Proofs.YthhhcfipmeganaaDoorW.PrintMore
open Fl Ra
set_option linter.unusedSimpArgs false
set_option linter.unusedVariables false

theorem u64_wrap (m : Nat) (h : m < 2 ^ 64) : IntKind.u64.wrap (m : Int) = m := by
  simp only [IntKind.wrap, IntKind.signed, IntKind.bits]
  simp
  omega
theorem run_max_int (a b m : Int) (h : m = max a b) (ts : Array TypeId) (t : TypeId) (w : World) : (Builtin.max_ ts t #[.int .i64 a, .int .i64 b]).run Tryd.prog w = .ok (.int .i64 m) w := by
  rw [max_two, max2_int]
  have : (if a < b then b else a) = m := by rw [h]; split <;> omega
  rw [this]; rfl
theorem run_min_int (a b m : Int) (h : m = min a b) (ts : Array TypeId) (t : TypeId) (w : World) : (Builtin.min_ ts t #[.int .i64 a, .int .i64 b]).run Tryd.prog w = .ok (.int .i64 m) w := by
  rw [min_two, min2_int]
  have : (if b < a then b else a) = m := by rw [h]; split <;> omega
  rw [this]; rfl

set_option maxRecDepth 100000 in
set_option maxHeartbeats 4000000 in
theorem dot_walk (gp gr h : Nat) (ww wd x y : Int) (pic : Pic) (w : World) (hP : Pen w gp gr h ww wd) (hR : Rows w gr h pic) (hne : gp ≠ gr) (hh1 : 1 ≤ h) (hh2 : h ≤ 64) (hw1 : 1 ≤ ww) (hw2 : ww ≤ 64) (hd1 : 1 ≤ wd) (hd2 : wd ≤ 9) (hx : In x) (hy : In y) :
    Calls Tryd.prog 29 #[.pointer (some ⟨gp, 0, none⟩), C x y] w fun e w' => e = .returned (.tuple #[]) ∧ Rows w' gr h (fun j i => pic j i || ink wd ww (x, y) j i) ∧ w.grownBy w' (some gr) := by
  unfold In at hx hy
  have hPK := Kept.mk hP
  have hRK := Kept.mk hR
  clear hP hR
  have z0 := (blk_cell hPK.out 0).trans rfl
  have z1 := (blk_cell hPK.out 1).trans rfl
  have z2 := (blk_cell hPK.out 2).trans rfl
  have z3 := (blk_cell hPK.out 3).trans rfl
  obtain ⟨lo, hlo⟩ : ∃ lo, lo = (wd - 1) / 2 := ⟨_, rfl⟩
  obtain ⟨hi, hhi⟩ : ∃ hi, hi = wd / 2 := ⟨_, rfl⟩
  have q1 : (wd - 1).tdiv 2 = lo := by rw [hlo, Int.tdiv_eq_ediv_of_nonneg (by omega)]
  have q2 : wd.tdiv 2 = hi := by rw [hhi, Int.tdiv_eq_ediv_of_nonneg (by omega)]
  have hlo2 : 0 ≤ lo ∧ lo ≤ 4 := by omega
  have hhi2 : 0 ≤ hi ∧ hi ≤ 4 := by omega
  have o1 : ∀ w, (convert 49 3 (.float .f64 (I x))).run Tryd.prog w = .ok (.int .i64 x) w := fun w => run_convert_float_int w 49 3 .f64 .i64 _ _ (by rw [Tryd.underlying49]; rfl) Tryd.underlying3 (toInt_I x (by omega))
  have o2 : ∀ w, (convert 49 3 (.float .f64 (I y))).run Tryd.prog w = .ok (.int .i64 y) w := fun w => run_convert_float_int w 49 3 .f64 .i64 _ _ (by rw [Tryd.underlying49]; rfl) Tryd.underlying3 (toInt_I y (by omega))
  obtain ⟨j0, hj0⟩ : ∃ j0 : Nat, (j0 : Int) = max (y - lo) 0 := ⟨(max (y - lo) 0).toNat, by omega⟩
  obtain ⟨i0, hi0⟩ : ∃ i0 : Nat, (i0 : Int) = max (x - lo) 0 := ⟨(max (x - lo) 0).toNat, by omega⟩
  obtain ⟨j1, hj1⟩ : ∃ j1 : Int, j1 = min (y + hi) ((h : Int) - 1) := ⟨_, rfl⟩
  obtain ⟨i1, hi1⟩ : ∃ i1 : Int, i1 = min (x + hi) (ww - 1) := ⟨_, rfl⟩
  have o3 := run_max_int (y - lo) 0 j0 hj0
  have o4 := run_max_int (x - lo) 0 i0 hi0
  have o5 := run_min_int (y + hi) ((h : Int) - 1) j1 hj1
  have o6 := run_min_int (x + hi) (ww - 1) i1 hi1
  have hloK := Kept.mk hlo
  have hhiK := Kept.mk hhi
  have hj0K := Kept.mk hj0
  have hi0K := Kept.mk hi0
  have hj1K := Kept.mk hj1
  have hi1K := Kept.mk hi1
  have hji : -70000 ≤ j1 ∧ j1 ≤ 63 ∧ -70000 ≤ i1 ∧ i1 ≤ 63 ∧ j0 ≤ 70000 ∧ i0 ≤ 70000 ∧ j1 ≤ (h : Int) - 1 := by omega
  clear hlo hhi hj0 hi0 hj1 hi1
  go_enter Tryd.func29, Tryd.ntmps29
  go_wp2
  go_quiet (fail)
  have hP2 : Kept (Pen (w.drewN nq) gp gr h ww wd) := ⟨hPK.out⟩
  have hR2 : Kept (Rows (w.drewN nq) gr h pic) := ⟨hRK.out⟩
  have hG2 : Kept (w.grownBy (w.drewN nq) (some gr)) := ⟨gb_drewN (World.grownBy.refl _ _) nq⟩
  generalize w.drewN nq = w2 at *
  clear z0 z1 z2 z3 hPK hRK
  go_wp2_with (first | simp only [o1] | simp only [o2] | simp only [o3])
  go_loopw [8] (fun i wr => ∃ j : Nat, j0 ≤ j ∧ ((j : Int) ≤ j1 + 1 ∨ j = j0) ∧ i = .int .i64 j ∧ Kept (Pen wr gp gr h ww wd) ∧ Kept (Rows wr gr h (part pic wd ww (x, y) j 0)) ∧ Kept (w.grownBy wr (some gr))) (fun i _ => 70001 - (intOf i).toNat)
  case atStart =>
    refine ⟨j0, Nat.le_refl _, .inr rfl, rfl, hP2, ⟨?_⟩, hG2⟩
    have e := rowsC_congr h (part pic wd ww (x, y) j0 0) pic (fun j i _ _ => part_first pic wd ww (x, y) j0 (by have := hj0K.out; have := hloK.out; simp only; omega) j i)
    unfold Rows
    rw [e]; exact hR2.out
  case round =>
    obtain ⟨j, hj, hjj, rfl, hP3, hR3, hG3⟩ := hrel
    clear hP2 hR2 hG2
    have z2 : wr.cell? ⟨gp, 2, none⟩ = some (.int .i64 (h : Int)) := (blk_cell hP3.out 2).trans rfl
    by_cases hlt : (j : Int) ≤ j1
    · go_wp2_with (first | simp only [o4] | simp only [o5])
      go_loopw [9] (fun i wq => ∃ k : Nat, i0 ≤ k ∧ ((k : Int) ≤ i1 + 1 ∨ k = i0) ∧ i = .int .i64 k ∧ Kept (Pen wq gp gr h ww wd) ∧ Kept (Rows wq gr h (part pic wd ww (x, y) j k)) ∧ Kept (w.grownBy wq (some gr))) (fun i _ => 70001 - (intOf i).toNat)
      case atStart =>
        refine ⟨i0, Nat.le_refl _, .inr rfl, rfl, hP3, ⟨?_⟩, hG3⟩
        have e := rowsC_congr h (part pic wd ww (x, y) j i0) (part pic wd ww (x, y) j 0) (fun j' i _ _ => part_row pic wd ww (x, y) j i0 (by have := hi0K.out; have := hloK.out; simp only; omega) j' i)
        unfold Rows
        rw [e]; exact hR3.out
      case round =>
        obtain ⟨k, hk, hkk, rfl, hP4, hR4, hG4⟩ := hrel
        clear hP3 hR3 hG3 z2
        have z1 : wr.cell? ⟨gp, 1, none⟩ = some (.int .i64 ww) := (blk_cell hP4.out 1).trans rfl
        by_cases hlt2 : (k : Int) ≤ i1
        · have hjh : j < h := by omega
          have hk64 : k < 64 := by omega
          have z0 : wr.cell? ⟨gp, 0, none⟩ = some (.slice (some ⟨gr, 0, none⟩) h h) := (blk_cell hP4.out 0).trans rfl
          have y0 : wr.cell? ⟨gr, j, none⟩ = some (.int .u64 ((num (part pic wd ww (x, y) j k j) 64 : Nat) : Int)) := by
            rw [blk_cell hR4.out j, rowsC_get _ _ _ hjh]
          have f0 := blk_frozen hR4.out j
          have hnum := num_lt (part pic wd ww (x, y) j k j) 64
          have hv : bits BinOp.or IntKind.u64 ((num (part pic wd ww (x, y) j k j) 64 : Nat) : Int) (IntKind.u64.wrap (2 ^ k)) = ((num (fun i => part pic wd ww (x, y) j k j i || i == k) 64 : Nat) : Int) := by
            have hp : (2 : Nat) ^ k < 2 ^ 64 := Nat.pow_lt_pow_right (by decide) hk64
            have e2 : IntKind.u64.wrap ((2 : Int) ^ k) = ((2 ^ k : Nat) : Int) := by
              have : ((2 : Int) ^ k) = ((2 ^ k : Nat) : Int) := by rw [Int.natCast_pow]; rfl
              rw [this, u64_wrap _ hp]
            rw [e2, u64_or _ _ hnum hp, num_or _ _ _ hk64]
          have hv2 := Kept.mk (show Value.int .u64 (bits BinOp.or IntKind.u64 ((num (part pic wd ww (x, y) j k j) 64 : Nat) : Int) (IntKind.u64.wrap (2 ^ k))) = rowV (fun i => part pic wd ww (x, y) j k j i || i == k) by rw [hv])
          clear hv
          generalize num (part pic wd ww (x, y) j k j) 64 = nm at *
          go_wp2_with (first | simp only [o6])
          go_still_tail 11, (by kernel_rfl)
          change wpList _ _ _ _ _ wr.drew
          have hP5 : Kept (Pen wr.drew gp gr h ww wd) := ⟨hP4.out⟩
          have hR5 : Kept (Rows wr.drew gr h (part pic wd ww (x, y) j k)) := ⟨hR4.out⟩
          have hG5 : Kept (w.grownBy wr.drew (some gr)) := ⟨gb_drew hG4.out⟩
          have z0d : wr.drew.cell? ⟨gp, 0, none⟩ = some (.slice (some ⟨gr, 0, none⟩) h h) := z0
          have y0d : wr.drew.cell? ⟨gr, j, none⟩ = some (.int .u64 (nm : Int)) := y0
          have f0d : wr.drew.frozen? ⟨gr, j, none⟩ = false := f0
          clear z0 y0 f0 hP4 hR4 hG4 z1
          generalize wr.drew = w5 at *
          go_wp2
          go_roundw
          case rel =>
            rw [hv2.out]
            refine ⟨k + 1, by omega, by omega, by go_num, ⟨blk_far hP5.out (p := ⟨gr, j, none⟩) hne _⟩, ⟨?_⟩, ⟨gb_set hG5.out j _⟩⟩
            have hi : ink wd ww (x, y) j k = true := ink_true wd ww (x, y) j k i1 j1 (by have := hj0K.out; have := hloK.out; simp only; omega) hlt (by have := hj1K.out; have := hhiK.out; simp only; omega) (by have := hi0K.out; have := hloK.out; simp only; omega) hlt2 (by have := hi1K.out; have := hhiK.out; simp only; omega) (by have := hi1K.out; omega)
            refine blk_put hR5.out j _ ?_
            rw [rowsC_set h _ j hjh]
            exact rowsC_congr h _ _ (fun j' i _ _ => part_set pic wd ww (x, y) j k hi j' i)
          case measure => simp [intOf]; omega
        · go_wp2_with (first | simp only [o6])
          go_roundw
          case rel =>
            refine ⟨j + 1, by omega, by omega, by go_num, hP4, ⟨?_⟩, hG4⟩
            have e := rowsC_congr h (part pic wd ww (x, y) (j + 1) 0) (part pic wd ww (x, y) j k) (fun j' i _ _ => (part_next pic wd ww (x, y) j k i1 (by have := hi1K.out; have := hhiK.out; simp only; omega) (by omega) j' i).symm)
            unfold Rows
            rw [e]; exact hR4.out
          case measure => simp [intOf]; omega
    · have e := Kept.mk (rowsC_congr h (part pic wd ww (x, y) j 0) (fun j i => pic j i || ink wd ww (x, y) j i) (fun j' i hj' _ => part_last pic wd ww (x, y) j h j1 (by have := hj1K.out; have := hhiK.out; simp only; omega) (by omega) j' i hj'))
      go_wp2_with (first | simp only [o5])
      all_goals (go_end0; refine ⟨rfl, ?_, hG3.out⟩; unfold Rows; rw [← e.out]; exact hR3.out)
end Go.Proofs.YthhhcfipmeganaaDoor.Rd
