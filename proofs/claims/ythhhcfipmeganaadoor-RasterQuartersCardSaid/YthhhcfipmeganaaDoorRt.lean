/-
  The walk of awake. No condition.
-/
import Derived.Test.YthhhcfipmeganaaDoorRs
namespace Go.Proofs.YthhhcfipmeganaaDoor.Rd
open Go.RowKit Go.Proofs.YthhhcfipmeganaaDoorW.PrintWords Go.Proofs.YthhhcfipmeganaaDoorW.PrintLast Go.Proofs.YthhhcfipmeganaaDoorW.PrintMore
open Fl Ra
set_option linter.unusedSimpArgs false
set_option linter.unusedVariables false

abbrev pts4 : List P2 := [(0, 0), (1, 0), (2, 1), (3, 1)]
theorem k0 : CP (0, 0) = .complex .f64 0 0 := by show Value.complex .f64 (I 0) (I 0) = _; rw [I_zero]
theorem k1 : CP (1, 0) = .complex .f64 4607182418800017408 0 := by
  show Value.complex .f64 (I 1) (I 0) = _
  rw [I_zero, show I 1 = 4607182418800017408 by decide +kernel]
theorem k2 : CP (2, 1) = .complex .f64 4611686018427387904 4607182418800017408 := by
  show Value.complex .f64 (I 2) (I 1) = _
  rw [show I 2 = 4611686018427387904 by decide +kernel, show I 1 = 4607182418800017408 by decide +kernel]
theorem k3 : CP (3, 1) = .complex .f64 4613937818241073152 4607182418800017408 := by
  show Value.complex .f64 (I 3) (I 1) = _
  rw [show I 3 = 4613937818241073152 by decide +kernel, show I 1 = 4607182418800017408 by decide +kernel]

theorem Dots_31 (w : World) : Calls Tryd.prog 14 #[.complex .f64 0 0, .complex .f64 4613937818241073152 4607182418800017408] w fun e w' =>
    ∃ gl cl, e = .returned (.tuple #[.slice (some ⟨gl, 0, none⟩) 4 cl, .bool true]) ∧ PtsAt w' gl pts4 ∧ Below w.heap.size w w' := by
  have h := Dots_walk (0, 0) (3, 1) (by decide) (by decide) (by decide) w
  rw [k0, k3] at h
  refine h.mono ?_
  rintro e w' ⟨v, rfl, hown, hb⟩
  have hd : dn (0, 0) (3, 1) + 1 = 4 := by decide
  have hp : path (0, 0) (3, 1) = pts4 := by decide
  rw [hd, hp] at hown
  obtain ⟨gl, cl, rfl, hgl, hgl2⟩ := hown.form (by decide)
  exact ⟨gl, cl, rfl, pts_own pts4 hown rfl hgl2, hb⟩

def vs5 (k : Nat) : Int := if k = 2 ∨ k = 3 then 24 else 0
theorem Draw_one (gs g : Nat) (w : World) (hs : ShAt w gs 1 2 g 1 1) (hp : PtsAt w g [(3, 2)]) :
    Calls Tryd.prog 15 #[.slice (some ⟨gs, 0, none⟩) 1 1, .complex .f64 0 0, .int .i64 1, .int .i64 8, .int .i64 5] w fun e w' =>
      ∃ gr, e = .returned (.tuple #[.slice (some ⟨gr, 0, none⟩) 5 5, .int .i64 0]) ∧ gr < w'.heap.size ∧ (∀ k, k < 5 → w'.cell? ⟨gr, k, none⟩ = some (.int .u64 (vs5 k))) ∧ Below w.heap.size w w' := by
  have h := Draw_walk gs 1 1 2 g 1 1 [(3, 2)] (0, 0) 1 8 5 (by decide) (by decide) (by decide) (by decide) (by decide) rfl (by decide) (by intro p hp; simp at hp; subst hp; decide) (by decide) (by decide) (by decide) (by decide) (by decide) (by decide) (by decide)
    (by intro k hk; obtain rfl : k = 0 := by omega
        decide) (by intro k hk; obtain rfl : k = 0 := by omega
                    decide) w hp hs
  rw [k0] at h
  refine Calls.mono h ?_
  rintro e w' ⟨gr, rfl, hgr, hR, hb⟩
  refine ⟨gr, rfl, blk_lt hR, fun k hk => ?_, hb⟩
  rw [blk_cell hR k, rowsC_get _ _ _ hk]
  have : ((num (inkD 2 8 (dotsK (([(3, 2)] : List P2).map (pl (0, 0) 1)) 1) k) 64 : Nat) : Int) = vs5 k := by
    match k, hk with
    | 0, _ => decide +kernel
    | 1, _ => decide +kernel
    | 2, _ => decide +kernel
    | 3, _ => decide +kernel
    | 4, _ => decide +kernel
  rw [rowV, this]

theorem Draw_zero (gs g : Nat) (w : World) (hs : ShAt w gs 1 2 g 1 1) (hp : PtsAt w g [(3, 2)]) :
    Calls Tryd.prog 15 #[.slice (some ⟨gs, 0, none⟩) 1 1, .complex .f64 0 0, .int .i64 0, .int .i64 8, .int .i64 5] w fun e w' =>
      e = .returned (.tuple #[.slice none 0 0, .int .i64 2]) ∧ Below w.heap.size w w' := by
  have h := Draw_bad gs 1 1 2 g 1 1 [(3, 2)] (0, 0) 8 5 (by decide) (by decide) (by decide) (by decide) (by decide) rfl (by decide) (by intro p hp; simp at hp; subst hp; decide) (by decide) w hp hs
  rw [k0] at h
  exact h

theorem Count_5 (g : Nat) (w : World) (hR : ∀ k, k < 5 → w.cell? ⟨g, k, none⟩ = some (.int .u64 (vs5 k))) :
    Calls Tryd.prog 11 #[.slice (some ⟨g, 0, none⟩) 5 5] w fun e w' => e = .returned (.int .i64 4) ∧ w = w' := by
  have h := Count_walk g 5 5 vs5 (fun k => if k = 2 ∨ k = 3 then 2 else 0) (by intro k; show 0 ≤ (if k = 2 ∨ k = 3 then (2 : Int) else 0) ∧ (if k = 2 ∨ k = 3 then (2 : Int) else 0) ≤ 64; split <;> omega) (by decide) (by
    intro k hk w
    match k, hk with
    | 0, _ => exact ones_0 w
    | 1, _ => exact ones_0 w
    | 2, _ => exact ones_24 w
    | 3, _ => exact ones_24 w
    | 4, _ => exact ones_0 w) w hR
  exact h

abbrev lit4 : Array Value := #[.complex .f64 0 0, .complex .f64 4607182418800017408 0, .complex .f64 4611686018427387904 4607182418800017408, .complex .f64 4613937818241073152 4607182418800017408]
theorem lit_pts (w : World) : PtsAt (w.alloc (.cells lit4 35)) w.heap.size pts4 := by
  have h := blk_new w (Obj.cells lit4 35)
  refine ⟨blk_lt h, fun j hj => ?_⟩
  rw [blk_cell h j]
  match j, hj with
  | 0, _ => exact congrArg some k0.symm
  | 1, _ => exact congrArg some k1.symm
  | 2, _ => exact congrArg some k2.symm
  | 3, _ => exact congrArg some k3.symm
theorem rows_below {w w1 : World} {g n : Nat} {vs : Nat → Int} (h : ∀ k, k < n → w.cell? ⟨g, k, none⟩ = some (.int .u64 (vs k))) (hg : g < w.heap.size) (hb : Below w.heap.size w w1) : ∀ k, k < n → w1.cell? ⟨g, k, none⟩ = some (.int .u64 (vs k)) :=
  fun k hk => (hb.cell (p := ⟨g, k, none⟩) hg).trans (h k hk)

theorem Turn_58 (g : Nat) (w : World) (hg : g < w.heap.size) (hR : ∀ k, k < 5 → w.cell? ⟨g, k, none⟩ = some (.int .u64 (vs5 k))) :
    Calls Tryd.prog 6 #[.slice (some ⟨g, 0, none⟩) 5 5, .int .i64 8] w fun e w' => ∃ gt, e = .returned (.slice (some ⟨gt, 0, none⟩) 8 8) ∧ Below w.heap.size w w' :=
  TurnLen_walk g 5 5 8 vs5 (by decide) (by decide) (by decide) w hg hR

set_option maxRecDepth 100000 in
set_option maxHeartbeats 4000000 in
theorem awake_walk (w : World) : Calls Tryd.prog 5 #[] w fun e w' => e = .returned (.bool true) ∧ Below w.heap.size w w' := by
  go_enter Tryd.func5, Tryd.ntmps5
  go_wp2_with (first
    | (go_at_call 14; (with_reducible refine (Dots_31 _).mono ?_); rintro e w1 ⟨gl, cl, rfl, hp1, hb⟩; have HP1 := Kept.mk hp1; have HB1 := Kept.mk hb; clear hp1 hb)
    | (go_at_call 16; (with_reducible refine (one_walk _).mono ?_); rintro e w2 ⟨gs, g, rfl, hs2, hp2, hb⟩; have HS2 := Kept.mk hs2; have HQ2 := Kept.mk hp2; have HP2 := Kept.mk (HP1.out.below hb); have HB2 := Kept.mk (bel_step HB1.out hb); clear hs2 hp2 hb)
    | (go_at_call 15; (with_reducible refine (Draw_one gs g _ HS2.out HQ2.out).mono ?_); rintro e w3 ⟨gr, rfl, hgr, hr3, hb⟩; have HR3 := Kept.mk hr3; have HG3 := Kept.mk hgr; have HP3 := Kept.mk (HP2.out.below hb); have HB3 := Kept.mk (bel_step HB2.out hb); clear hr3 hgr hb HS2 HQ2 HB1)
    | (go_at_call 16; (with_reducible refine (one_walk _).mono ?_); rintro e w4 ⟨gs2, g2, rfl, hs4, hp4, hb⟩; have HS4 := Kept.mk hs4; have HQ4 := Kept.mk hp4; have HP4 := Kept.mk (HP3.out.below hb); have HR4 := Kept.mk (rows_below HR3.out HG3.out hb); have HG4 := Kept.mk (Nat.lt_of_lt_of_le HG3.out hb.size); have HB4 := Kept.mk (bel_step HB3.out hb); clear hs4 hp4 hb HR3 HG3 HB3 HP3)
    | (go_at_call 15; (with_reducible refine (Draw_zero gs2 g2 _ HS4.out HQ4.out).mono ?_); rintro e w5 ⟨rfl, hb⟩; have HP5 := Kept.mk (HP4.out.below hb); have HR5 := Kept.mk (rows_below HR4.out HG4.out hb); have HG5 := Kept.mk (Nat.lt_of_lt_of_le HG4.out hb.size); have HB5 := Kept.mk (bel_step HB4.out hb); clear hb HS4 HQ4 HB4 HR4 HG4 HP4; have hba := Kept.mk (show Below w5.heap.size w5 (w5.alloc (.cells lit4 35)) from below_alloc (Below.refl _ _) _); have HL := Kept.mk (lit_pts w5); have HP6 := Kept.mk (HP5.out.below hba.out); have HR6 := Kept.mk (rows_below HR5.out HG5.out hba.out); have HG6 := Kept.mk (Nat.lt_of_lt_of_le HG5.out hba.out.size); have HB6 := Kept.mk (bel_step HB5.out hba.out); clear HP5 HR5 HG5 HB5 hba)
    | (go_at_call 17; (with_reducible refine (SamePoints_walk gl w5.heap.size 4 cl 4 pts4 rfl (by decide) _ HP6.out HL.out).mono ?_); rintro e w7 ⟨rfl, hb⟩; have HR7 := Kept.mk (rows_below HR6.out HG6.out hb); have HG7 := Kept.mk (Nat.lt_of_lt_of_le HG6.out hb.size); have HB7 := Kept.mk (bel_step HB6.out hb); have r2 : w7.cell? ⟨gr, 2, none⟩ = some (.int .u64 24) := HR7.out 2 (by decide); have r3 : w7.cell? ⟨gr, 3, none⟩ = some (.int .u64 24) := HR7.out 3 (by decide); clear hb)
    | (go_at_call 11; (with_reducible refine (Count_5 gr _ HR7.out).mono ?_); rintro e w8 ⟨rfl, rfl⟩)
    | (go_at_call 6; (with_reducible refine (Turn_58 gr _ HG7.out HR7.out).mono ?_); rintro e w9 ⟨gt, rfl, hb⟩; have HB9 := Kept.mk (bel_step HB7.out hb); clear hb))
  all_goals (go_ret; exact ⟨rfl, HB9.out⟩)
end Go.Proofs.YthhhcfipmeganaaDoor.Rd
